/- The walks of tokens: how many literal bytes. No condition but sizes. -/
import Derived.Test.YtgnogoghfendpaaTokRows
set_option linter.unusedVariables false
set_option linter.unusedSimpArgs false
namespace Go.Proofs.Ytgnogoghfendpaa
open Go Go.RowKit W
namespace Tk
/-- All of them lie in their ranges. -/
def Fits (l : List Tok) : Prop := l.length ≤ 1099511627776 ∧ ∀ t ∈ l, Fit t
theorem bytes_snoc (l : List Tok) (k : Nat) (h : k < l.length) : bytes (l.take (k + 1)) = bytes (l.take k) + if right l[k] then (l[k]).d.length else 0 := by
  rw [List.take_succ_eq_append_getElem h, bytes_append, bytes_one]
theorem bytes_le (l : List Tok) (hf : ∀ t ∈ l, Fit t) : bytes l ≤ l.length * 16384 := by
  induction l with
  | nil => simp [bytes]
  | cons t l ih =>
    have := ih (fun x hx => hf x (by simp [hx]))
    rw [show t :: l = [t] ++ l from rfl, bytes_append, bytes_one, List.length_append, List.length_singleton]
    cases hr : right t
    · simp only [Bool.false_eq_true, if_false]; omega
    · simp only [if_true]
      have := (right_fit hr).2
      omega
end Tk
end Go.Proofs.Ytgnogoghfendpaa

