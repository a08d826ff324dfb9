/- The law's arguments, opened: arrays of words and of bytes. No condition. -/
import Derived.Test.YtogpcgbbifclmaaFrameC
import Derived.Test.YtogpcgbbifclmaaSketchWalk
set_option linter.unusedVariables false
namespace Go.Proofs.Ytogpcgbbifclmaa
open Go Go.RowKit W Go.ChangeShapes Go.WideShapes Go.ChangeAt
namespace Sk
theorem open8 {H : Type} {enc : TypeId × Value → H} {P : Program} {W : World} {base : Nat} {sp : Nat → Bool} {held : Bool} {r : Reach} {b0 : Nat} {T E : TypeId} {v : Value} {d : DataW H} {p : List MemPlace}
    (hs : P.underlying T = some (.array 8 E)) (hC : P.cellsOf T = 8) (hc : P.cellsOf E = 1) (hE : P.underlying E = some (.int .u64))
    (hv : Value.okWide P W r b0 T v) (h : DataW.Trod enc P W base sp held T v d p) : ∃ xs : List UInt64, xs.length = 8 ∧ v = .agg (vs xs) := by
  obtain ⟨xs, hl, rfl, hw⟩ := Fr.open_ints hs hC hc hE hv h
  obtain ⟨ys, rfl⟩ := Fr.word_u64s xs hw
  exact ⟨ys, by simpa using hl, by rw [vs_eq]⟩
theorem open_two8 {H : Type} {enc : TypeId × Value → H} {P : Program} {W : World} {base : Nat} {sp : Nat → Bool} {held : Bool} {r : Reach} {b0 : Nat} {T E : TypeId} {v : Value} {d : DataW H} {p : List MemPlace}
    (hs : P.underlying T = some (.array 2 E)) (hC : P.cellsOf T = 2) (hc : P.cellsOf E = 1) (hE : P.underlying E = some (.int .u8))
    (hv : Value.okWide P W r b0 T v) (h : DataW.Trod enc P W base sp held T v d p) : ∃ x y : UInt8, v = .agg #[.int .u8 (n8 x), .int .u8 (n8 y)] := by
  obtain ⟨xs, hl, rfl, hw⟩ := Fr.open_ints hs hC hc hE hv h
  match xs, hl with
  | [a, b], _ =>
    obtain ⟨x, rfl⟩ := Fr.word_u8 (hw a (by simp))
    obtain ⟨y, rfl⟩ := Fr.word_u8 (hw b (by simp))
    exact ⟨x, y, rfl⟩
end Sk
end Go.Proofs.Ytogpcgbbifclmaa

