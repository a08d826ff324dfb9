/- The walks of a reader of numbers, texts and sums, further: texts and sums. No condition but sizes. -/
import Derived.Test.YtgnogoghfendpaaVintReadC
set_option linter.unusedVariables false
set_option linter.unusedSimpArgs false
namespace Go.Proofs.Ytgnogoghfendpaa
open Go Go.RowKit W
namespace Vint
/-- What the deed of reading a text tells and leaves. -/
def cutT (l : List UInt8) (n : Nat) : Nat × List UInt8 × List UInt8 := if l.length < n then (4, l, []) else (0, l.drop n, l.take n)
end Vint
end Go.Proofs.Ytgnogoghfendpaa

