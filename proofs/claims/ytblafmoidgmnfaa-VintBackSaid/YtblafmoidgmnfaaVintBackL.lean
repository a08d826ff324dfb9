/- What was put is read as it was: plain laws. No program. No condition. -/
import Derived.Test.YtblafmoidgmnfaaVintPuts
import Derived.Test.YtblafmoidgmnfaaVintOnce
set_option linter.unusedVariables false
namespace Go.Proofs.Ytblafmoidgmnfaa
namespace Vint
/-- A number's bytes, wherever they stand, are scanned as that number. -/
theorem scan_num (l : List UInt8) (most : Nat) (rest : List UInt8) (k : Nat) : ∀ i n m, m < k → l.drop i = num m ++ rest → i < 10 → n + 128 ^ i * m < 18446744073709551616 → n + 128 ^ i * m ≤ most → (0 < i → 0 < m) →
    scan l most i n = (0, n + 128 ^ i * m, i + (num m).length) := by
  induction k with
  | zero => intro i n m h; omega
  | succ k ih =>
    intro i n m hk hl hi hlt hle hpos
    have hp := num_pos m
    have hlen : i < l.length := by
      have := congrArg List.length hl
      rw [List.length_drop, List.length_append] at this
      omega
    have hdrop : l.drop i = l[i] :: l.drop (i + 1) := List.drop_eq_getElem_cons hlen
    have h9p : (128 : Nat) ^ 9 = 9223372036854775808 := by decide
    have h9 : ¬ (i = 9 ∧ 1 < (l[i]).toNat) := by
      rintro ⟨h9, h1⟩
      subst h9
      rw [h9p] at hlt
      have hm1 : m ≤ 1 := by omega
      rw [hdrop, num_small (by omega)] at hl
      have : l[9] = UInt8.ofNat m := by simpa using (List.cons.inj hl).1
      rw [this, UInt8.toNat_ofNat'] at h1
      omega
    rw [scan_step hi hlen h9]
    by_cases h128 : m < 128
    · rw [hdrop, num_small h128] at hl
      have hb : (l[i]).toNat = m := by
        have : l[i] = UInt8.ofNat m := by simpa using (List.cons.inj hl).1
        rw [this, UInt8.toNat_ofNat']
        omega
      rw [hb, if_neg (by omega), if_neg (by omega), Nat.mod_eq_of_lt h128, if_neg (by omega), num_small h128]
      rfl
    · rw [hdrop, num_big h128] at hl
      have hl2 := (List.cons.inj hl).2
      have hb : (l[i]).toNat = m % 128 + 128 := by
        have : l[i] = UInt8.ofNat (m % 128 + 128) := (List.cons.inj hl).1
        rw [this, UInt8.toNat_ofNat']
        omega
      have hmod : (m % 128 + 128) % 128 = m % 128 := by omega
      have hsplit : 128 ^ i * m = 128 ^ i * (m % 128) + 128 ^ (i + 1) * (m / 128) := by
        rw [Nat.pow_succ, Nat.mul_assoc, ← Nat.mul_add]
        congr 1
        omega
      have hi9 : i + 1 < 10 := by
        rcases Nat.lt_or_ge (i + 1) 10 with h | h
        · exact h
        · have : i = 9 := by omega
          subst this
          rw [h9p] at hlt
          omega
      rw [hb, if_pos (by omega), hmod, ih (i + 1) (n + 128 ^ i * (m % 128)) (m / 128) (by omega) hl2 hi9 (by rw [Nat.add_assoc, ← hsplit]; exact hlt) (by rw [Nat.add_assoc, ← hsplit]; exact hle) (fun _ => by omega)]
      rw [num_big h128, List.length_cons]
      rw [hsplit]
      refine Prod.ext rfl (Prod.ext ?_ ?_)
      · show n + 128 ^ i * (m % 128) + 128 ^ (i + 1) * (m / 128) = _; rw [Nat.add_assoc]
      · show i + 1 + (num (m / 128)).length = i + ((num (m / 128)).length + 1); omega
theorem get_num (x : UInt64) (rest : List UInt8) (most : Nat) (h : x.toNat ≤ most) : get (num x.toNat ++ rest, 0) most = ((rest, 0), x.toNat) := by
  have hx := x.toNat_lt
  have hs := scan_num (num x.toNat ++ rest) most rest (x.toNat + 1) 0 0 x.toNat (by omega) rfl (by omega) (by show _ < 2 ^ 64; omega) (by omega) (fun h => by omega)
  unfold get
  rw [if_pos rfl, hs, if_pos rfl]
  simp
theorem getText_text (s rest : List UInt8) (h : s.length < 18446744073709551616) : getText (text s ++ rest, 0) s.length = ((rest, 0), s) := by
  have hn : (UInt64.ofNat s.length).toNat = s.length := by rw [UInt64.toNat_ofNat']; exact Nat.mod_eq_of_lt h
  have hg := get_num (UInt64.ofNat s.length) (s ++ rest) s.length (by omega)
  rw [hn] at hg
  unfold getText text
  rw [List.append_assoc, hg]
  rw [if_pos rfl, if_neg (by rw [List.length_append]; omega)]
  simp
theorem fold8_be8 (x : UInt64) : fold8 (be8 x) = x := by
  apply UInt64.toNat_inj.1
  have hx := x.toNat_lt
  have e : be8 x = [UInt8.ofNat (x.toNat / 256 ^ 7), UInt8.ofNat (x.toNat / 256 ^ 6), UInt8.ofNat (x.toNat / 256 ^ 5), UInt8.ofNat (x.toNat / 256 ^ 4), UInt8.ofNat (x.toNat / 256 ^ 3), UInt8.ofNat (x.toNat / 256 ^ 2), UInt8.ofNat (x.toNat / 256 ^ 1), UInt8.ofNat (x.toNat / 256 ^ 0)] := rfl
  rw [e]
  unfold fold8
  simp only [List.foldl_cons, List.foldl_nil, UInt64.toNat_add, UInt64.toNat_mul, UInt8.toNat_toUInt64, UInt8.toNat_ofNat']
  generalize x.toNat = n at *
  have h0 : (0 : UInt64).toNat = 0 := rfl
  have h1 : (256 : UInt64).toNat = 256 := rfl
  rw [h0, h1]
  have p7 : (256 : Nat) ^ 7 = 72057594037927936 := by decide
  have p6 : (256 : Nat) ^ 6 = 281474976710656 := by decide
  have p5 : (256 : Nat) ^ 5 = 1099511627776 := by decide
  have p4 : (256 : Nat) ^ 4 = 4294967296 := by decide
  have p3 : (256 : Nat) ^ 3 = 16777216 := by decide
  have p2 : (256 : Nat) ^ 2 = 65536 := by decide
  have p1 : (256 : Nat) ^ 1 = 256 := by decide
  have p0 : (256 : Nat) ^ 0 = 1 := by decide
  rw [p7, p6, p5, p4, p3, p2, p1, p0]
  omega
theorem getSum_sum (x y : UInt64) (rest : List UInt8) : getSum (sum x y ++ rest, 0) = ((rest, 0), (x, y)) := by
  have hl : (sum x y).length = 16 := by unfold sum; rw [List.length_append, be8_length, be8_length]
  unfold getSum
  rw [if_pos rfl, if_neg (by rw [List.length_append]; omega)]
  have e1 : word8 (sum x y ++ rest) = x := by
    unfold word8
    rw [List.take_append_of_le_length (by omega)]
    unfold sum
    rw [List.take_append_of_le_length (by rw [be8_length]; omega), List.take_of_length_le (by rw [be8_length]; omega)]
    exact fold8_be8 x
  have e2 : word8 ((sum x y ++ rest).drop 8) = y := by
    unfold word8 sum
    rw [List.append_assoc, List.drop_append_of_le_length (by rw [be8_length]; omega), List.drop_of_length_le (by rw [be8_length]; omega), List.nil_append, List.take_append_of_le_length (by rw [be8_length]; omega), List.take_of_length_le (by rw [be8_length]; omega)]
    exact fold8_be8 y
  have e3 : (sum x y ++ rest).drop 16 = rest := by rw [← hl, List.drop_left]
  rw [e1, e2, e3]
end Vint
end Go.Proofs.Ytblafmoidgmnfaa
