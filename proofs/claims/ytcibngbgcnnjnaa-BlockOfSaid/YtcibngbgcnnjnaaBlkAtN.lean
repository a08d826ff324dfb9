/- block.At where there is no block. No condition but sizes. -/
import Derived.Test.YtcibngbgcnnjnaaBlkWalk
set_option linter.unusedVariables false
set_option linter.unusedSimpArgs false
namespace Go.Proofs.Ytcibngbgcnnjnaa
open Go Go.RowKit W
namespace Bl
set_option maxRecDepth 100000 in
set_option maxHeartbeats 2000000 in
theorem at_none (A : Option Addr) (c : Nat) (n : Nat) (size k : Int) (w : World) (hs : n ≤ 1000000) (hk : ¬ (0 ≤ k ∧ k < (count n (hold size) : Int))) :
    Calls Try.prog 17 #[.slice A n c, .int .i64 size, .int .i64 k] w fun e w' => e = .returned (.slice none 0 0) ∧ w' = w := by
  have hcn := Lib.hid (count_any n size w (by omega))
  generalize count n (hold size) = m at *
  by_cases h0 : k < 0
  · clear hk
    go_enter Try.func17, Try.ntmps17
    go_wp2
    go_ret
    exact ⟨rfl, rfl⟩
  · have h1 : (m : Int) ≤ k := by omega
    clear hk
    go_enter Try.func17, Try.ntmps17
    go_wp2_with fail
    go_at_call 7
    refine hcn.out.mono ?_
    rintro e w1 ⟨rfl, rfl⟩
    clear hcn
    go_wp2
    go_ret
    exact ⟨rfl, rfl⟩
end Bl
end Go.Proofs.Ytcibngbgcnnjnaa

