/- The walks of a reader of numbers, texts and sums, further: ints, texts, sums, what is left, the end. No condition but sizes. -/
import Derived.Test.YtgnogoghfendpaaVintReadB
set_option linter.unusedVariables false
set_option linter.unusedSimpArgs false
namespace Go.Proofs.Ytgnogoghfendpaa
open Go Go.RowKit W
namespace Vint
theorem scan_le (l : List UInt8) (most : Nat) (k : Nat) : ∀ i n, 10 - i ≤ k → (scan l most i n).2.1 ≤ most := by
  induction k with
  | zero =>
    intro i n hk
    rw [scan, dif_neg (by omega)]
    exact Nat.zero_le _
  | succ k ih =>
    intro i n hk
    rw [scan]
    split
    · split
      · exact Nat.zero_le _
      · split
        · exact Nat.zero_le _
        · split
          · exact ih _ _ (by omega)
          · split
            · exact Nat.zero_le _
            · split
              · exact Nat.zero_le _
              · rename_i h; exact Nat.le_of_not_lt h
    · exact Nat.zero_le _
theorem get_le (s : RS) (most : Nat) : (get s most).2 ≤ most := by
  unfold get
  split
  · split
    · exact scan_le _ _ 10 _ _ (by omega)
    · exact Nat.zero_le _
  · exact Nat.zero_le _
/-! ### bytes -/
/-! ### what is left, and the end -/
/-! ### a reader at the begin -/
end Vint
end Go.Proofs.Ytgnogoghfendpaa

