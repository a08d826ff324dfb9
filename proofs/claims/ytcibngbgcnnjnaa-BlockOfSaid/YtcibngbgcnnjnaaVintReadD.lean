/- The walks of a reader of numbers, texts and sums, further: texts and sums. No condition but sizes. -/
import Derived.Test.YtcibngbgcnnjnaaVintReadC
set_option linter.unusedVariables false
set_option linter.unusedSimpArgs false
namespace Go.Proofs.Ytcibngbgcnnjnaa
open Go Go.RowKit W
namespace Vint
theorem Rdr.far {w : World} {g b : Nat} {s : RS} (h : Rdr w g s) (hb : g < b) (i : Nat) (u : Value) : Rdr (w.setCell ⟨b, i, none⟩ u) g s := by
  obtain ⟨A, cc, q1, q2, q3, q4⟩ := h
  exact ⟨A, cc, q1.far (p := ⟨b, i, none⟩) (by show g ≠ b; omega) _, q2.setCell (p := ⟨b, i, none⟩) (by show g ≤ b; omega) _, q3, q4⟩
/-- What the deed of reading a text tells and leaves. -/
def cutT (l : List UInt8) (n : Nat) : Nat × List UInt8 × List UInt8 := if l.length < n then (4, l, []) else (0, l.drop n, l.take n)
end Vint
end Go.Proofs.Ytcibngbgcnnjnaa

