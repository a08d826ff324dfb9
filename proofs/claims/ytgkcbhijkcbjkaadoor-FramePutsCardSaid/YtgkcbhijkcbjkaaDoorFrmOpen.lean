/- The laws' arguments, opened: a frame by value. No condition. -/
import Derived.Test.YtgkcbhijkcbjkaaDoorFrame
import Derived.Test.YtgkcbhijkcbjkaaDoorFrmLawT
set_option linter.unusedVariables false
set_option linter.unusedSimpArgs false
namespace Go.Proofs.YtgkcbhijkcbjkaaDoor
open Go Go.RowKit W Go.ChangeShapes Go.WideShapes Go.ChangeAt
namespace Fm
theorem open_frm {H : Type} {enc : TypeId × Value → H} {W : World} {base : Nat} {sp : Nat → Bool} {held : Bool} {r : Reach} {b0 : Nat} {v : Value} {d : DataW H} {p : List MemPlace}
    (hv : Value.okWide Tryd.prog W r b0 30 v) (h : DataW.Trod enc Tryd.prog W base sp held 30 v d p) : ∃ f : Frm, v = frmV f ∧ f.d.length ≤ maxLen ∧ (Lit.int .i64 f.k).wf = true := by
  obtain ⟨v0, v1, v2, v3, y0, y1, y2, y3, n, rfl, _, _, k0, k1, k2, k3⟩ := Joins.open_agg4 Tryd.underlying30 (by kernel_rfl) (by kernel_rfl) hv h
  obtain ⟨z0, e0, _, w0⟩ := DataW.trod_int Tryd.underlying3 k0
  obtain ⟨z1, e1, _, w1⟩ := DataW.trod_int Tryd.underlying24 k1
  obtain ⟨z2, e2, _, w2⟩ := DataW.trod_int Tryd.underlying24 k2
  obtain ⟨z3, e3, _, w3⟩ := DataW.trod_string Tryd.underlying9 k3
  obtain ⟨u1, rfl⟩ := Fr.word_u64 w1
  obtain ⟨u2, rfl⟩ := Fr.word_u64 w2
  obtain rfl : v0 = _ := List.cons.inj e0 |>.1
  obtain rfl : v1 = _ := List.cons.inj e1 |>.1
  obtain rfl : v2 = _ := List.cons.inj e2 |>.1
  obtain rfl : v3 = _ := List.cons.inj e3 |>.1
  exact ⟨⟨z0, u1, u2, z3.data.toList⟩, rfl, by show z3.data.toList.length ≤ maxLen; rw [Array.length_toList]; exact w3, w0⟩
end Fm
end Go.Proofs.YtgkcbhijkcbjkaaDoor
