/- The walks of a reader of numbers, texts and sums: the number's. No condition but sizes. -/
import Derived.Test.YtgnogoghfendpaaVintPut
set_option linter.unusedVariables false
set_option linter.unusedSimpArgs false
namespace Go.Proofs.Ytgnogoghfendpaa
open Go Go.RowKit W
namespace Vint
/-! ### the number's step -/
theorem low_and (c : UInt8) : (c &&& 127).toNat = c.toNat % 128 := by
  rw [UInt8.toNat_and]
  exact Nat.and_two_pow_sub_one_eq_mod c.toNat 7
theorem scan_or (nn i : Nat) (c : UInt8) (hn : nn < 128 ^ i) (hi : i ≤ 9) (h9 : i = 9 → c.toNat ≤ 1) :
    UInt64.ofNat nn ||| (c.toUInt64 &&& 127) * UInt64.ofInt (2 ^ (7 * i)) = UInt64.ofNat (nn + 128 ^ i * (c.toNat % 128)) ∧ nn + 128 ^ i * (c.toNat % 128) < 18446744073709551616 ∧ nn + 128 ^ i * (c.toNat % 128) < 128 ^ (i + 1) := by
  have e : ((2 : Int) ^ (7 * i)) = ((128 ^ i : Nat) : Int) := by rw [Int.pow_mul]; simp
  have hp : 128 ^ i ≤ 128 ^ 9 := Nat.pow_le_pow_right (by omega) hi
  have h9' : (128 : Nat) ^ 9 = 9223372036854775808 := by decide
  have h8' : (128 : Nat) ^ 8 = 72057594037927936 := by decide
  have hd : c.toNat % 128 < 128 := Nat.mod_lt _ (by omega)
  have hlt : nn + 128 ^ i * (c.toNat % 128) < 128 ^ (i + 1) := by
    have : 128 ^ i * (c.toNat % 128) + 128 ^ i ≤ 128 ^ i * 128 := by rw [← Nat.mul_succ]; exact Nat.mul_le_mul_left _ hd
    rw [Nat.pow_succ]
    omega
  have hlt2 : nn + 128 ^ i * (c.toNat % 128) < 18446744073709551616 := by
    by_cases h : i = 9
    · have hc := h9 h
      subst h
      have : c.toNat % 128 ≤ 1 := by omega
      have : 128 ^ 9 * (c.toNat % 128) ≤ 128 ^ 9 * 1 := Nat.mul_le_mul_left _ this
      omega
    · have h1 : 128 ^ (i + 1) ≤ 128 ^ 9 := Nat.pow_le_pow_right (by omega) (by omega)
      omega
  refine ⟨?_, hlt2, hlt⟩
  rw [e, w_ofNat_u64]
  apply UInt64.toNat_inj.1
  have hc : (c.toUInt64 &&& 127).toNat = c.toNat % 128 := by
    rw [UInt64.toNat_and]
    have : c.toUInt64.toNat = c.toNat := by simp
    rw [this]
    exact Nat.and_two_pow_sub_one_eq_mod c.toNat 7
  rw [UInt64.toNat_or, UInt64.toNat_mul, hc, UInt64.toNat_ofNat', UInt64.toNat_ofNat', UInt64.toNat_ofNat']
  have hmul : c.toNat % 128 * (128 ^ i % 2 ^ 64) % 2 ^ 64 = 128 ^ i * (c.toNat % 128) := by
    rw [Nat.mod_eq_of_lt (a := 128 ^ i) (by show 128 ^ i < 18446744073709551616; omega), Nat.mul_comm]
    exact Nat.mod_eq_of_lt (by show _ < 18446744073709551616; omega)
  rw [hmul, Nat.mod_eq_of_lt (a := nn) (by show nn < 18446744073709551616; omega), Nat.mod_eq_of_lt (show _ < 2 ^ 64 from hlt2)]
  have e2 : 128 ^ i = 2 ^ (7 * i) := by rw [Nat.pow_mul]
  rw [e2] at hn ⊢
  rw [Nat.or_comm, Nat.add_comm]
  exact (Nat.two_pow_add_eq_or_of_lt hn _).symm
theorem scan_step {l : List UInt8} {most i nn : Nat} (hi : i < 10) (hl : i < l.length) (h9 : ¬ (i = 9 ∧ 1 < (l[i]).toNat)) :
    scan l most i nn = if 128 ≤ (l[i]).toNat then scan l most (i + 1) (nn + 128 ^ i * ((l[i]).toNat % 128)) else
      if (l[i]).toNat = 0 ∧ 0 < i then (3, 0, 0) else if most < nn + 128 ^ i * ((l[i]).toNat % 128) then (5, 0, 0) else (0, nn + 128 ^ i * ((l[i]).toNat % 128), i + 1) := by
  have e : l.getD i 0 = l[i] := by simp [List.getD, hl]
  rw [scan, dif_pos hi, if_neg (by omega), e, if_neg h9]
/-- What a number's read leaves. -/
def left (l : List UInt8) (r : Nat × Nat × Nat) : List UInt8 := if r.1 = 0 then l.drop r.2.2 else l
def gotV (r : Nat × Nat × Nat) : Value := .tuple #[.int .u64 (n64 (UInt64.ofNat r.2.1)), .int .i64 (r.1 : Int)]
end Vint
end Go.Proofs.Ytgnogoghfendpaa

