/- The document's strong sums, on lists of bytes: plain definitions, and the laws on them. No program. No condition. -/
set_option linter.unusedVariables false
namespace Go.Proofs.Ytcibngbgcnnjnaa
namespace Mix
/-! ### turning -/
def RN (n x : Nat) : Nat := (x % 2 ^ (64 - n)) * 2 ^ n + x / 2 ^ (64 - n)
theorem RN_step (n x : Nat) (hn : n < 63) (hx : x < 2 ^ 64) : (RN n x * 2) % 2 ^ 64 + RN n x / 2 ^ 63 = RN (n + 1) x := by
  unfold RN
  have hP : 2 ^ (64 - n) = 2 * 2 ^ (64 - (n + 1)) := by rw [show 64 - n = (64 - (n + 1)) + 1 by omega, Nat.pow_succ, Nat.mul_comm]
  have hPN : 2 ^ (64 - (n + 1)) * 2 ^ n = 2 ^ 63 := by rw [← Nat.pow_add]; congr 1; omega
  have hN1 : 2 ^ (n + 1) = 2 * 2 ^ n := by rw [Nat.pow_succ, Nat.mul_comm]
  have hP0 : 0 < 2 ^ (64 - (n + 1)) := Nat.two_pow_pos _
  have hN0 : 0 < 2 ^ n := Nat.two_pow_pos _
  rw [hP, hN1]
  generalize 2 ^ (64 - (n + 1)) = P at *
  generalize 2 ^ n = N at *
  obtain ⟨q, r, hxq, hr⟩ : ∃ q r, x = q * (2 * P) + r ∧ r < 2 * P := ⟨x / (2 * P), x % (2 * P), by rw [Nat.mul_comm]; exact (Nat.div_add_mod x (2 * P)).symm, Nat.mod_lt _ (by omega)⟩
  have hq : q < N := by
    have h1 : q * (2 * P) < N * (2 * P) := by
      have : N * (2 * P) = 2 ^ 64 := by rw [show N * (2 * P) = 2 * (P * N) from by rw [Nat.mul_comm N, Nat.mul_assoc], hPN]
      omega
    exact Nat.lt_of_mul_lt_mul_right h1
  have e1 : x % (2 * P) = r := by rw [hxq, Nat.mul_add_mod_self_right, Nat.mod_eq_of_lt hr]
  have e2 : x / (2 * P) = q := by rw [hxq, Nat.add_comm, Nat.add_mul_div_right _ _ (by omega), Nat.div_eq_of_lt hr, Nat.zero_add]
  rw [e1, e2]
  obtain ⟨b, s, hrb, hs⟩ : ∃ b s, r = b * P + s ∧ s < P := ⟨r / P, r % P, by rw [Nat.mul_comm]; exact (Nat.div_add_mod r P).symm, Nat.mod_lt _ hP0⟩
  have hb : b < 2 := by
    have : b * P < 2 * P := by omega
    exact Nat.lt_of_mul_lt_mul_right this
  have hx2 : x = (2 * q + b) * P + s := by rw [hxq, hrb, Nat.add_mul, ← Nat.mul_assoc, Nat.mul_comm q 2]; omega
  have e3 : x % P = s := by rw [hx2, Nat.mul_add_mod_self_right, Nat.mod_eq_of_lt hs]
  have e4 : x / P = 2 * q + b := by rw [hx2, Nat.add_comm, Nat.add_mul_div_right _ _ hP0, Nat.div_eq_of_lt hs, Nat.zero_add]
  rw [e3, e4]
  have hsN : s * N + N ≤ 2 ^ 63 := by
    rw [← hPN, ← Nat.succ_mul]
    exact Nat.mul_le_mul_right _ hs
  have hrN : r * N = b * 2 ^ 63 + s * N := by rw [hrb, Nat.add_mul, Nat.mul_assoc, hPN]
  have hs2 : s * (2 * N) = 2 * (s * N) := by rw [← Nat.mul_assoc, Nat.mul_comm s 2, Nat.mul_assoc]
  rw [hrN, hs2]
  generalize s * N = z at *
  have e5 : (2 : Nat) ^ 63 = 9223372036854775808 := by decide
  have e6 : (2 : Nat) ^ 64 = 18446744073709551616 := by decide
  rw [e5] at hsN ⊢
  rw [e6]
  clear e5 e6 hx2 hxq hrb hrN e1 e2 e3 e4 hPN hx
  have hb2 : b = 0 ∨ b = 1 := by omega
  rcases hb2 with rfl | rfl <;> omega
/-- One place up. -/
def rot1 (x : UInt64) : UInt64 := x * 2 + x / 9223372036854775808
def rots : Nat → UInt64 → UInt64
  | 0, x => x
  | n + 1, x => rot1 (rots n x)
theorem rots_toNat (n : Nat) (x : UInt64) (hn : n < 64) : (rots n x).toNat = RN n x.toNat := by
  induction n with
  | zero =>
    have h := x.toNat_lt
    simp [rots, RN]
    omega
  | succ n ih =>
    have h := RN_step n x.toNat (by omega) x.toNat_lt
    have hlt := (rots n x).toNat_lt
    rw [← h, ← ih (by omega)]
    show ((rots n x) * 2 + (rots n x) / 9223372036854775808).toNat = _
    rw [UInt64.toNat_add, UInt64.toNat_mul, UInt64.toNat_div]
    show ((rots n x).toNat * 2 % 2 ^ 64 + (rots n x).toNat / 9223372036854775808) % 2 ^ 64 = _
    omega
theorem shifts (n : Nat) (k j : UInt64) (hk : k.toNat = 2 ^ n) (hj : j.toNat = 2 ^ (64 - n)) (h0 : 0 < n) (hn : n < 64) (x : UInt64) : x * k ||| x / j = rots n x := by
  apply UInt64.toNat_inj.1
  rw [rots_toNat n x hn, UInt64.toNat_or, UInt64.toNat_mul, UInt64.toNat_div, hk, hj]
  unfold RN
  have hx := x.toNat_lt
  have hPN : 2 ^ (64 - n) * 2 ^ n = 2 ^ 64 := by rw [← Nat.pow_add]; congr 1; omega
  have h1 : x.toNat / 2 ^ (64 - n) < 2 ^ n := Nat.div_lt_of_lt_mul (by rw [hPN]; exact hx)
  have h2 : x.toNat * 2 ^ n % 2 ^ 64 = x.toNat % 2 ^ (64 - n) * 2 ^ n := by rw [← hPN, Nat.mul_mod_mul_right]
  rw [h2, Nat.mul_comm, Nat.two_pow_add_eq_or_of_lt h1]
theorem turn29 (x : UInt64) : x * 536870912 ||| x / 34359738368 = rots 29 x := shifts 29 _ _ rfl rfl (by omega) (by omega) x
theorem turn41 (x : UInt64) : x * 2199023255552 ||| x / 8388608 = rots 41 x := shifts 41 _ _ rfl rfl (by omega) (by omega) x
theorem turn23 (x : UInt64) : x * 8388608 ||| x / 2199023255552 = rots 23 x := shifts 23 _ _ rfl rfl (by omega) (by omega) x
theorem turn35 (x : UInt64) : x * 34359738368 ||| x / 536870912 = rots 35 x := shifts 35 _ _ rfl rfl (by omega) (by omega) x
theorem back29 (x : UInt64) : rots 35 (rots 29 x) = x := by
  apply UInt64.toNat_inj.1
  rw [rots_toNat 35 _ (by omega), rots_toNat 29 _ (by omega)]
  have := x.toNat_lt
  unfold RN
  simp only [Nat.reduceSub, Nat.reducePow]
  omega
theorem back41 (x : UInt64) : rots 23 (rots 41 x) = x := by
  apply UInt64.toNat_inj.1
  rw [rots_toNat 23 _ (by omega), rots_toNat 41 _ (by omega)]
  have := x.toNat_lt
  unfold RN
  simp only [Nat.reduceSub, Nat.reducePow]
  omega
theorem forth29 (x : UInt64) : rots 29 (rots 35 x) = x := by
  apply UInt64.toNat_inj.1
  rw [rots_toNat 29 _ (by omega), rots_toNat 35 _ (by omega)]
  have := x.toNat_lt
  unfold RN
  simp only [Nat.reduceSub, Nat.reducePow]
  omega
theorem forth41 (x : UInt64) : rots 41 (rots 23 x) = x := by
  apply UInt64.toNat_inj.1
  rw [rots_toNat 41 _ (by omega), rots_toNat 23 _ (by omega)]
  have := x.toNat_lt
  unfold RN
  simp only [Nat.reduceSub, Nat.reducePow]
  omega

/-! ### the inverse of an odd number -/
def invStep (n x : UInt64) : UInt64 := x * (2 - n * x)
def inv : Nat → UInt64 → UInt64
  | 0, n => n
  | k + 1, n => invStep n (inv k n)
abbrev K1 : UInt64 := 11400714819323198485
abbrev K2 : UInt64 := 14029467366897019727
theorem inv_K1 : K1 * inv 6 K1 = 1 := by decide +kernel
theorem inv_K2 : K2 * inv 6 K2 = 1 := by decide +kernel

/-! ### a round -/
abbrev St := UInt64 × UInt64
def round (s : St) (w : UInt64) : St := (rots 29 ((s.1 ^^^ w) * K1) + s.2, rots 41 ((s.2 + w) * K2) ^^^ (rots 29 ((s.1 ^^^ w) * K1) + s.2))
def back (s : St) (w : UInt64) : St := (rots 35 (s.1 - (rots 23 (s.2 ^^^ s.1) * inv 6 K2 - w)) * inv 6 K1 ^^^ w, rots 23 (s.2 ^^^ s.1) * inv 6 K2 - w)
def start : St := (2611923443488327891, 1376283091369227076)
theorem xor_xor (a b : UInt64) : a ^^^ b ^^^ b = a := by rw [UInt64.xor_assoc, UInt64.xor_self, UInt64.xor_zero]
theorem back_round (s : St) (w : UInt64) : back (round s w) w = s := by
  obtain ⟨hi, lo⟩ := s
  have h1 : rots 23 ((round (hi, lo) w).2 ^^^ (round (hi, lo) w).1) * inv 6 K2 - w = lo := by
    show rots 23 (rots 41 ((lo + w) * K2) ^^^ (rots 29 ((hi ^^^ w) * K1) + lo) ^^^ (rots 29 ((hi ^^^ w) * K1) + lo)) * inv 6 K2 - w = lo
    rw [xor_xor, back41, UInt64.mul_assoc, inv_K2, UInt64.mul_one, UInt64.add_sub_cancel]
  unfold back
  rw [h1]
  apply Prod.ext
  · show rots 35 (rots 29 ((hi ^^^ w) * K1) + lo - lo) * inv 6 K1 ^^^ w = hi
    rw [UInt64.add_sub_cancel, back29, UInt64.mul_assoc, inv_K1, UInt64.mul_one, xor_xor]
  · rfl
theorem round_back (s : St) (w : UInt64) : round (back s w) w = s := by
  obtain ⟨hi, lo⟩ := s
  have e1 : rots 29 (((back (hi, lo) w).1 ^^^ w) * K1) + (back (hi, lo) w).2 = hi := by
    show rots 29 ((rots 35 (hi - (rots 23 (lo ^^^ hi) * inv 6 K2 - w)) * inv 6 K1 ^^^ w ^^^ w) * K1) + (rots 23 (lo ^^^ hi) * inv 6 K2 - w) = hi
    rw [xor_xor, UInt64.mul_assoc, UInt64.mul_comm (inv 6 K1), inv_K1, UInt64.mul_one, forth29, UInt64.sub_add_cancel]
  unfold round
  rw [e1]
  apply Prod.ext
  · rfl
  · show rots 41 ((rots 23 (lo ^^^ hi) * inv 6 K2 - w + w) * K2) ^^^ hi = lo
    rw [UInt64.sub_add_cancel, UInt64.mul_assoc, UInt64.mul_comm (inv 6 K2), inv_K2, UInt64.mul_one, forth41, xor_xor]
theorem round_inj {s t : St} {w : UInt64} (h : round s w = round t w) : s = t := by
  rw [← back_round s w, h, back_round]
theorem round_word {s : St} {v w : UInt64} (h : round s v = round s w) : v = w := by
  have h1 : rots 29 ((s.1 ^^^ v) * K1) = rots 29 ((s.1 ^^^ w) * K1) := by
    have := congrArg Prod.fst h
    have h2 : rots 29 ((s.1 ^^^ v) * K1) + s.2 = rots 29 ((s.1 ^^^ w) * K1) + s.2 := this
    have h3 := congrArg (· - s.2) h2
    simpa [UInt64.add_sub_cancel] using h3
  have h2 := congrArg (rots 35) h1
  rw [back29, back29] at h2
  have h3 := congrArg (· * inv 6 K1) h2
  simp only [UInt64.mul_assoc, inv_K1, UInt64.mul_one] at h3
  have h4 := congrArg (s.1 ^^^ ·) h3
  simpa [← UInt64.xor_assoc, UInt64.xor_self] using h4
end Mix
end Go.Proofs.Ytcibngbgcnnjnaa

