/- The walks of reading strong sums' texts. No condition but sizes. -/
import Derived.Test.YtcibngbgcnnjnaaMixParse
set_option linter.unusedVariables false
set_option linter.unusedSimpArgs false
namespace Go.Proofs.Ytcibngbgcnnjnaa
open Go Go.RowKit W
namespace Mix
def refGotV : Option St → Value
  | some s => .tuple #[sumV s, .bool true]
  | none => .tuple #[sumV (0, 0), .bool false]
theorem refParsed_none {l : List UInt8} (h : l.length = 32) (h2 : num (l.take 16) = none ∨ num (l.drop 16) = none) : refParsed l = none := by
  unfold refParsed
  rw [if_pos h]
  rcases h2 with h2 | h2 <;> rw [h2]
  cases num (l.take 16) <;> rfl
end Mix
end Go.Proofs.Ytcibngbgcnnjnaa

