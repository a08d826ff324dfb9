/- The walks of a reader of numbers, texts and sums, further. No condition but sizes. -/
import Derived.Test.YtgnogoghfendpaaVintRead
import Derived.Shelf.Abstract
set_option linter.unusedVariables false
set_option linter.unusedSimpArgs false
namespace Go.Proofs.Ytgnogoghfendpaa
open Go Go.RowKit W
namespace Vint
/-- What 'when' leaves, where the deed told an error, or none. -/
def Whened (g : Nat) (code : Nat) (w w' : World) : Prop := (code = 0 ∧ w' = w) ∨ (code ≠ 0 ∧ w' = (w.setCell ⟨g, 1, none⟩ (.int .i64 (code : Int))).setCell ⟨g, 0, none⟩ (.slice none 0 0))
theorem Whened.kb {g code : Nat} {w w' : World} (h : Whened g code w w') : Kb g w w' := by
  rcases h with ⟨_, rfl⟩ | ⟨_, rfl⟩
  · exact Kb.refl _ _
  · exact ((Kb.refl g w).set 1 _).set 0 _
/-! ### the number -/
theorem scan_err (l : List UInt8) (most : Nat) (k : Nat) : ∀ i n, 10 - i ≤ k → (scan l most i n).1 ≠ 0 → (scan l most i n).2.1 = 0 := by
  induction k with
  | zero =>
    intro i n hk h
    rw [scan, dif_neg (by omega)]
  | succ k ih =>
    intro i n hk
    rw [scan]
    split
    · split
      · intro _; rfl
      · split
        · intro _; rfl
        · split
          · exact ih _ _ (by omega)
          · split
            · intro _; rfl
            · split
              · intro _; rfl
              · intro h; exact absurd rfl h
    · intro _; rfl
theorem get_ok (l : List UInt8) (most : Nat) : get (l, 0) most = ((if (scan l most 0 0).1 = 0 then left l (scan l most 0 0) else [], (scan l most 0 0).1), (scan l most 0 0).2.1) := by
  unfold get left
  rw [if_pos rfl]
  by_cases h : (scan l most 0 0).1 = 0
  · rw [if_pos h, if_pos h, if_pos h, h]
  · rw [if_neg h, if_neg h, scan_err l most 10 0 0 (by omega) h]
theorem get_err {s : RS} (h : s.2 ≠ 0) (most : Nat) : get s most = (s, 0) := by
  unfold get
  rw [if_neg h]
end Vint
end Go.Proofs.Ytgnogoghfendpaa

