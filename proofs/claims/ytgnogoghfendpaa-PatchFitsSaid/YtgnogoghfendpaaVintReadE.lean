/- The walks of a reader of numbers, texts and sums, further: sums. No condition but sizes. -/
import Derived.Test.YtgnogoghfendpaaVintReadD
set_option linter.unusedVariables false
set_option linter.unusedSimpArgs false
namespace Go.Proofs.Ytgnogoghfendpaa
open Go Go.RowKit W
namespace Vint
def fold8 (l : List UInt8) : UInt64 := l.foldl (fun x c => x * 256 + c.toUInt64) 0
theorem fold8_snoc (l : List UInt8) (c : UInt8) : fold8 (l ++ [c]) = fold8 l * 256 + c.toUInt64 := by simp [fold8]
theorem or_byte (x : UInt64) (c : UInt8) : x * 256 ||| c.toUInt64 = x * 256 + c.toUInt64 := by
  apply UInt64.toNat_inj.1
  rw [UInt64.toNat_or, UInt64.toNat_add, UInt64.toNat_mul]
  have e : c.toUInt64.toNat = c.toNat := by simp
  have hc := c.toNat_lt
  rw [e]
  show x.toNat * 256 % 18446744073709551616 ||| c.toNat = (x.toNat * 256 % 18446744073709551616 + c.toNat) % 18446744073709551616
  have h1 : x.toNat * 256 % 18446744073709551616 = 2 ^ 8 * (x.toNat % 72057594037927936) := by omega
  rw [h1, ← Nat.two_pow_add_eq_or_of_lt (show c.toNat < 2 ^ 8 from hc)]
  omega
/-- The two words of some bytes. -/
def two (b : List UInt8) : UInt64 × UInt64 := (fold8 (b.take 8), fold8 (b.drop 8))
theorem two_lo {b : List UInt8} {k : Nat} (h : k < b.length) (h8 : k < 8) : two (b.take (k + 1)) = ((two (b.take k)).1 * 256 ||| b[k].toUInt64, (two (b.take k)).2) := by
  unfold two
  rw [or_byte, ← fold8_snoc, List.take_take, List.take_take, Nat.min_eq_right (by omega), Nat.min_eq_right (by omega), List.take_succ_eq_append_getElem h]
  congr 1
  rw [List.drop_eq_nil_of_le (by simp; omega), List.drop_eq_nil_of_le (by simp; omega)]
theorem two_hi {b : List UInt8} {k : Nat} (h : k < b.length) (h8 : ¬ k < 8) : two (b.take (k + 1)) = ((two (b.take k)).1, (two (b.take k)).2 * 256 ||| b[k].toUInt64) := by
  unfold two
  rw [or_byte, ← fold8_snoc, List.take_take, List.take_take, Nat.min_eq_left (by omega), Nat.min_eq_left (by omega), List.take_succ_eq_append_getElem h, List.drop_append_of_le_length (by simp; omega)]
theorem two_word (l : List UInt8) : two (l.take 16) = (word8 l, word8 (l.drop 8)) := by
  unfold two word8
  rw [List.take_take, List.drop_take]
  rfl
/-- What the deed of reading a sum tells and leaves. -/
def cutS (l : List UInt8) : Nat × List UInt8 × (UInt64 × UInt64) := if l.length < 16 then (4, l, (0, 0)) else (0, l.drop 16, (word8 l, word8 (l.drop 8)))
/-! ### a reader that nobody made -/
end Vint
end Go.Proofs.Ytgnogoghfendpaa

