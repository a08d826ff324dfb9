/- The walk of the example that each law on strong sums asks first. No condition. -/
import Derived.Test.YtcibngbgcnnjnaaMixOf
import Derived.Test.YtcibngbgcnnjnaaMixParseB
set_option linter.unusedVariables false
set_option linter.unusedSimpArgs false
namespace Go.Proofs.Ytcibngbgcnnjnaa
open Go Go.RowKit W
namespace Mix
theorem of_nil : of [] = closed start 0 := by
  unfold of
  rw [feed_less (by simp), rest_less (by simp)]
  rfl
theorem closed_ne : (closed start 0).1 ≠ 0 := by decide +kernel
theorem text_12 : L (up 1) (up 2) 16 = [48, 48, 48, 48, 48, 48, 48, 48, 48, 48, 48, 48, 48, 48, 48, 49, 48, 48, 48, 48, 48, 48, 48, 48, 48, 48, 48, 48, 48, 48, 48, 50] := by decide +kernel
end Mix
end Go.Proofs.Ytcibngbgcnnjnaa

