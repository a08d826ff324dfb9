/- The walks of SignOf. No condition but sizes. -/
import Derived.Test.YtcibngbgcnnjnaaSigRows
import Derived.Test.YtcibngbgcnnjnaaRollWalk
import Derived.Test.YtcibngbgcnnjnaaMixOf
import Derived.Test.YtcibngbgcnnjnaaMixRefOf
set_option linter.unusedVariables false
set_option linter.unusedSimpArgs false
namespace Go.Proofs.Ytcibngbgcnnjnaa
open Go Go.RowKit W
namespace Sg
set_option maxRecDepth 100000 in
set_option maxHeartbeats 4000000 in
theorem signOf_any (A : Option Addr) (c : Nat) (l : List UInt8) (w : World) (hs : l.length ≤ 1000000) (hc : l.length ≤ c) (hr : RB w w.heap.size A l) :
    Calls Try.prog 12 #[.slice A l.length c] w fun e w' => e = .returned (sV (sign l)) ∧ Gr w w' := by
  have b0 := Lib.hid (Blk.new w 33 #[.int .u32 0, .int .u64 0, .int .u64 0])
  have g0 := Lib.hid ((Gr.refl w).alloc (.cells #[.int .u32 0, .int .u64 0, .int .u64 0] 33))
  have r0 := Lib.hid ((hr.alloc (Nat.le_refl _) (.cells #[.int .u32 0, .int .u64 0, .int .u64 0] 33)).more (by rw [World.size_alloc]; omega) : RB (w.alloc (.cells #[.int .u32 0, .int .u64 0, .int .u64 0] 33)) (w.alloc (.cells #[.int .u32 0, .int .u64 0, .int .u64 0] 33)).heap.size A l)
  clear hr
  obtain ⟨x, hx⟩ : ∃ x, sign l = x := ⟨_, rfl⟩
  rw [hx]
  obtain ⟨a, b, d⟩ := x
  have ha : Roll.of l = a := congrArg (·.1) hx
  have hb : Mix.of l = (b, d) := congrArg (·.2) hx
  have hro := Lib.hid (Roll.of_any A c _ l _ (by omega) (Nat.le_refl _) r0.out)
  rw [ha] at hro
  have hmi := Lib.hid (fun w (hr : RB w w.heap.size A l) => Mix.of_any A c l w (by omega) hc hr)
  rw [hb] at hmi
  clear hx ha hb
  go_enter Try.func12, Try.ntmps12
  go_wp2_with fail
  go_at_call 29
  refine hro.out.mono ?_
  rintro e w1 ⟨rfl, g1⟩
  have b1 := Lib.hid (b0.out.below g1 (by rw [World.size_alloc]; omega))
  have r1 := Lib.hid ((r0.out.below g1).more (Below.size g1))
  have G1 := Lib.hid (Gr.trans g0.out g1)
  clear b0 r0 g0 g1 hro
  go_wp2_with fail
  go_at_call 30
  refine (hmi.out _ r1.out).mono ?_
  rintro e w2 ⟨rfl, g2⟩
  have b2 := Lib.hid (b1.out.below g2 b1.out.lt)
  have G2 := Lib.hid (Gr.trans G1.out g2)
  clear b1 r1 G1 g2 hmi
  go_wp2_with (first
    | ((with_reducible refine wpList_isStore 33 (.tmp 2) (.tmp 7) rfl ?_); refine wpList_store_blk rfl 33 (.tmp 2) (.tmp 7) rfl w.heap.size #[.int .u32 (n32 a), .int .u64 (n64 b), .int .u64 (n64 d)] rfl rfl 33 #[.int .u32 0, .int .u64 0, .int .u64 0] b2.out (signInfo _ _ _) rfl (by simp [Value.oneCell']) ?_; intro w3 n3 k3 z3; have x0 := n3.cell 0; have x1 := n3.cell 1; have x2 := n3.cell 2; have G3 := Lib.hid (keep_new G2.out k3); clear G2 b2 n3 k3 z3))
  exact bodyPost_ret (v := sV (a, b, d)) (by simp [results, Try.results12, go_sem, x0, x1, x2]) rfl ⟨rfl, G3.out⟩
end Sg
end Go.Proofs.Ytcibngbgcnnjnaa

