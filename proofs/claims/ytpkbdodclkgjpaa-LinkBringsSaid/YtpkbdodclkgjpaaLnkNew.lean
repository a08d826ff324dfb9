/- The walk of link.New. No condition. -/
import Derived.Test.YtpkbdodclkgjpaaLnkTurn
set_option linter.unusedVariables false
set_option linter.unusedSimpArgs false
namespace Go.Proofs.Ytpkbdodclkgjpaa
open Go Go.RowKit Go.Shelf W
namespace Ln
abbrev lkZ : Array Value := #[.slice none 0 0, .int .i64 0, .int .i64 0, .slice none 0 0, .int .i64 0, .int .i64 0]
theorem lk_new (w : World) : Lk (w.alloc (.cells lkZ 54)) w.heap.size ⟨[], 0, 0⟩ ⟨[], 0, 0⟩ :=
  ⟨lkZ, .slice none 0 0, [], .slice none 0 0, [], Blk.new w _ _, ⟨rfl, rfl, rfl, ⟨none, 0, rfl⟩, ⟨rfl, .inl ⟨rfl, rfl⟩⟩, PR.nil_ _⟩, ⟨rfl, rfl, rfl, ⟨none, 0, rfl⟩, ⟨rfl, .inl ⟨rfl, rfl⟩⟩, PR.nil_ _⟩, fun n h => by cases h⟩
theorem new_any (w : World) : Calls Try.prog 7 #[] w fun e w' => e = .returned (.pointer (some ⟨w.heap.size, 0, none⟩)) ∧ w' = w.alloc (.cells lkZ 54) := by
  have hbd : ∀ w : World, (Instr.build 54 #[]).run Try.prog w = .ok (.agg lkZ) w := fun _ => by kernel_rfl
  go_enter Try.func7, Try.ntmps7
  go_wp2
  go_ret
  exact ⟨rfl, rfl⟩
end Ln
end Go.Proofs.Ytpkbdodclkgjpaa

