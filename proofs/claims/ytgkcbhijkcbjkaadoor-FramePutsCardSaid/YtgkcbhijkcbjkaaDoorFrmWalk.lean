/- The walks of frames: Right, is, to, at, Newer, Alike. No condition. -/
import Derived.Test.YtgkcbhijkcbjkaaDoorFrmSpec
import Derived.Test.YtgkcbhijkcbjkaaDoorGrowM
import Derived.Test.YtgkcbhijkcbjkaaDoorVintRefE
import Derived.Test.YtgkcbhijkcbjkaaDoorVintRef
import Derived.Test.YtgkcbhijkcbjkaaDoorCrcWalkC
import Derived.Test.YtgkcbhijkcbjkaaDoorRound
set_option linter.unusedVariables false
set_option linter.unusedSimpArgs false
namespace Go.Proofs.YtgkcbhijkcbjkaaDoor
open Go Go.RowKit W Vint Crc
namespace Fm
abbrev fc (f : Frm) : Array Value := #[.int .i64 f.k, .int .u64 (n64 f.b), .int .u64 (n64 f.n), .string ⟨f.d.toArray⟩]
abbrev frmV (f : Frm) : Value := .agg (fc f)
theorem ret_bool {a b : Bool} (h : a = b) : Ending.returned (.bool a) = .returned (.bool b) := by rw [h]
theorem frmInfo {a b c d : Value} : (Tryd.prog.info? 26).map (·.size) = some (#[a, b, c, d] : Array Value).size := by kernel_rfl
theorem refInfo {a b c d : Value} : (Tryd.prog.info? 30).map (·.size) = some (#[a, b, c, d] : Array Value).size := by kernel_rfl
set_option maxHeartbeats 2000000 in
theorem right_any (f : Frm) (w : World) (hd : f.d.length ≤ 9223372036854775807) : Calls Tryd.prog 14 #[frmV f] w fun e w' => e = .returned (.bool (right f)) ∧ Gr w w' := by
  obtain ⟨k, b, n, d⟩ := f
  simp only at hd
  obtain ⟨v, hv⟩ : ∃ v, v = right ⟨k, b, n, d⟩ := ⟨_, rfl⟩
  rw [← hv]
  unfold right at hv
  simp only at hv
  replace hv := Lib.hid hv
  go_enter Tryd.func14, Tryd.ntmps14
  go_wp2
  all_goals
    go_ret
    refine ⟨ret_bool ?_, (Gr.refl w).alloc _⟩
    rw [hv.out, eq_comm]
    first
      | exact decide_eq_false (by omega)
      | (rw [decide_eq_decide]; omega)
set_option maxHeartbeats 2000000 in
theorem refRight_any (f : Frm) (w : World) (hd : f.d.length ≤ 9223372036854775807) : Calls Tryd.prog 15 #[frmV f] w fun e w' => e = .returned (.bool (right f)) ∧ Gr w w' := by
  obtain ⟨k, b, n, d⟩ := f
  simp only at hd
  obtain ⟨v, hv⟩ : ∃ v, v = right ⟨k, b, n, d⟩ := ⟨_, rfl⟩
  rw [← hv]
  unfold right at hv
  simp only at hv
  replace hv := Lib.hid hv
  go_enter Tryd.func15, Tryd.ntmps15
  go_wp2
  all_goals
    go_ret
    refine ⟨ret_bool ?_, (Gr.refl w).alloc _⟩
    rw [hv.out, eq_comm]
    first
      | exact decide_eq_false (by omega)
      | (rw [decide_eq_decide]; omega)
theorem n64_inj {a b : UInt64} (h : n64 a = n64 b) : a = b := by
  unfold n64 at h
  exact UInt64.toNat_inj.1 (by omega)
set_option maxHeartbeats 2000000 in
theorem is_same (f : Frm) (w : World) : Calls Tryd.prog 10 #[frmV f, frmV f] w fun e w' => e = .returned (.bool true) ∧ Gr w w' := by
  go_enter Tryd.func10, Tryd.ntmps10
  go_wp2
  go_ret
  exact ⟨rfl, ((Gr.refl w).alloc _).alloc _⟩
set_option maxHeartbeats 2000000 in
theorem to_any (f : Frm) (w : World) : Calls Tryd.prog 12 #[frmV f] w fun e w' => e = .returned (frmV f) ∧ Gr w w' := by
  have b1 := Blk.new (w.alloc (.cells (fc f) 30)) 26 #[.int .i64 0, .int .u64 0, .int .u64 0, .string ⟨#[]⟩]
  rw [World.size_alloc] at b1
  have g1 := Lib.hid (((Gr.refl w).alloc (.cells (fc f) 30)).alloc (.cells #[.int .i64 0, .int .u64 0, .int .u64 0, .string ⟨#[]⟩] 26))
  replace b1 := Lib.hid b1
  go_enter Tryd.func12, Tryd.ntmps12
  go_wp2_with (first
    | (refine wpList_store_blk rfl 26 (.tmp 2) (.tmp 11) rfl (w.heap.size + 1) (fc f) rfl rfl 26 #[.int .i64 0, .int .u64 0, .int .u64 0, .string ⟨#[]⟩] b1.out frmInfo rfl (by simp [Value.oneCell']) ?_; intro w4 n4 k4 z4; have x0 := n4.cell 0; have x1 := n4.cell 1; have x2 := n4.cell 2; have x3 := n4.cell 3; have G4 := Lib.hid (Below.trans g1.out (Below.mono (Kb.below k4 (by simp)) (by omega))); clear z4 k4 n4))
  exact bodyPost_ret (v := frmV f) (by simp [results, Tryd.results12, go_sem, x0, x1, x2, x3]) rfl ⟨rfl, G4.out⟩
def newer (f g : Frm) : Bool := decide (n64 g.b < n64 f.b) || (f.b == g.b && decide (n64 g.n < n64 f.n))
set_option maxHeartbeats 2000000 in
theorem newer_any (f g : Frm) (w : World) : Calls Tryd.prog 16 #[frmV f, frmV g] w fun e w' => e = .returned (.bool (newer f g)) ∧ Gr w w' := by
  obtain ⟨v, hv⟩ : ∃ v, v = newer f g := ⟨_, rfl⟩
  rw [← hv]
  unfold newer at hv
  replace hv := Lib.hid hv
  go_enter Tryd.func16, Tryd.ntmps16
  go_wp2
  all_goals
    go_ret
    refine ⟨ret_bool ?_, ((Gr.refl w).alloc _).alloc _⟩
    rw [hv.out]
    simp [*]
set_option maxHeartbeats 2000000 in
theorem at_any (f : Frm) (w : World) : Calls Tryd.prog 37 #[frmV f] w fun e w' => e = .returned (.agg #[.int .u64 (n64 f.b), .int .u64 (n64 f.n)]) ∧ Gr w w' := by
  have b1 := Blk.new (w.alloc (.cells (fc f) 26)) 72 #[.int .u64 0, .int .u64 0]
  rw [World.size_alloc] at b1
  have g1 := Lib.hid (((Gr.refl w).alloc (.cells (fc f) 26)).alloc (.cells #[.int .u64 0, .int .u64 0] 72))
  replace b1 := Lib.hid b1
  have hi : (Tryd.prog.info? 72).map (·.size) = some (#[.int .u64 (n64 f.b), .int .u64 (n64 f.n)] : Array Value).size := by kernel_rfl
  go_enter Tryd.func37, Tryd.ntmps37
  go_wp2_with (first
    | (refine wpList_store_blk rfl 72 (.tmp 2) (.tmp 7) rfl (w.heap.size + 1) #[.int .u64 (n64 f.b), .int .u64 (n64 f.n)] rfl rfl 72 #[.int .u64 0, .int .u64 0] b1.out hi rfl (by simp [Value.oneCell']) ?_; intro w4 n4 k4 z4; have x0 := n4.cell 0; have x1 := n4.cell 1; have G4 := Lib.hid (Below.trans g1.out (Below.mono (Kb.below k4 (by simp)) (by omega))); clear z4 k4 n4))
  exact bodyPost_ret (v := .agg #[.int .u64 (n64 f.b), .int .u64 (n64 f.n)]) (by simp [results, Tryd.results37, go_sem, x0, x1]) rfl ⟨rfl, G4.out⟩
def alike (f g : Frm) : Bool := f.b == g.b && f.n == g.n
theorem run_eql_place (f g : Frm) (x y : Operand) (w : World) : (do eqGuard .eql 72 x y (.agg #[.int .u64 (n64 f.b), .int .u64 (n64 f.n)]) (.agg #[.int .u64 (n64 g.b), .int .u64 (n64 g.n)]); binOp .eql 72 (.agg #[.int .u64 (n64 f.b), .int .u64 (n64 f.n)]) (.agg #[.int .u64 (n64 g.b), .int .u64 (n64 g.n)]) : Sem Value).run Tryd.prog w = .ok (.bool (alike f g)) w := by
  unfold alike
  by_cases h1 : f.b = g.b <;> by_cases h2 : f.n = g.n <;> simp [go_sem, h1, h2]
end Fm
end Go.Proofs.YtgkcbhijkcbjkaaDoor
