/- Two sums held against each other. No condition. -/
import Derived.Test.YtgnogoghfendpaaMixWalk
set_option linter.unusedVariables false
set_option linter.unusedSimpArgs false
namespace Go.Proofs.Ytgnogoghfendpaa
open Go Go.RowKit W
namespace Mix
theorem eql_sum (s t : St) (x y : Operand) (w : World) : (do eqGuard .eql 43 x y (sumV s) (sumV t); binOp .eql 43 (sumV s) (sumV t) : Sem Value).run Try.prog w = .ok (.bool (s == t)) w := by
  have e : (s == t) = (s.1 == t.1 && s.2 == t.2) := rfl
  rw [e]
  by_cases h1 : s.1 = t.1 <;> by_cases h2 : s.2 = t.2 <;> simp [go_sem, h1, h2]
theorem sumInfo (a b : Value) : (Try.prog.info? 43).map (·.size) = some (#[a, b] : Array Value).size := by kernel_rfl
end Mix
end Go.Proofs.Ytgnogoghfendpaa

