/- The document's numbers as bytes, on lists of bytes: plain definitions, and the laws on them. No program. No condition. -/
set_option linter.unusedVariables false
namespace Go.Proofs.Ytcibngbgcnnjnaa
namespace Vint
/-! ### putting -/
/-- The bytes of a number. -/
def num (n : Nat) : List UInt8 := if n < 128 then [UInt8.ofNat n] else UInt8.ofNat (n % 128 + 128) :: num (n / 128)
termination_by n
decreasing_by omega
theorem num_small {n : Nat} (h : n < 128) : num n = [UInt8.ofNat n] := by rw [num, if_pos h]
theorem num_big {n : Nat} (h : ¬ n < 128) : num n = UInt8.ofNat (n % 128 + 128) :: num (n / 128) := by rw [num, if_neg h]
theorem num_length (k : Nat) : ∀ n, n < 128 ^ (k + 1) → (num n).length ≤ k + 1 := by
  induction k with
  | zero => intro n h; rw [num_small (by simpa using h)]; simp
  | succ k ih =>
    intro n h
    by_cases h1 : n < 128
    · rw [num_small h1]; simp
    · rw [num_big h1, List.length_cons]
      have := ih (n / 128) (by rw [Nat.pow_succ] at h; omega)
      omega
theorem num_pos (n : Nat) : 0 < (num n).length := by
  by_cases h : n < 128
  · rw [num_small h]; simp
  · rw [num_big h]; simp
theorem num_mono (k : Nat) : ∀ n m, n ≤ m → m < k → (num n).length ≤ (num m).length := by
  induction k with
  | zero => intro n m _ h; omega
  | succ k ih =>
    intro n m h hk
    by_cases h1 : n < 128
    · rw [num_small h1]
      exact num_pos m
    · rw [num_big h1, num_big (n := m) (by omega), List.length_cons, List.length_cons]
      have := ih (n / 128) (m / 128) (Nat.div_le_div_right h) (by omega)
      omega
/-- The bytes of a text. -/
def text (s : List UInt8) : List UInt8 := num s.length ++ s
/-- The eight bytes of a word, the highest first. -/
def be8 (x : UInt64) : List UInt8 := (List.range 8).map fun i => UInt8.ofNat (x.toNat / 256 ^ (7 - i))
/-- The bytes of a sum. -/
def sum (x y : UInt64) : List UInt8 := be8 x ++ be8 y
theorem be8_length (x : UInt64) : (be8 x).length = 8 := by simp [be8]
/-! ### reading -/
/-- A number off bytes: the error, the number, how many bytes. -/
def scan (l : List UInt8) (most i n : Nat) : Nat × Nat × Nat :=
  if h : i < 10 then
    if l.length ≤ i then (4, 0, 0) else
    if i = 9 ∧ 1 < (l.getD i 0).toNat then (3, 0, 0) else
    if 128 ≤ (l.getD i 0).toNat then scan l most (i + 1) (n + 128 ^ i * ((l.getD i 0).toNat % 128)) else
    if (l.getD i 0).toNat = 0 ∧ 0 < i then (3, 0, 0) else
    if most < n + 128 ^ i * ((l.getD i 0).toNat % 128) then (5, 0, 0) else (0, n + 128 ^ i * ((l.getD i 0).toNat % 128), i + 1)
  else (3, 0, 0)
termination_by 10 - i
/-- What is left, and the first error. -/
abbrev RS := List UInt8 × Nat
def get (s : RS) (most : Nat) : RS × Nat :=
  if s.2 = 0 then
    if (scan s.1 most 0 0).1 = 0 then ((s.1.drop (scan s.1 most 0 0).2.2, 0), (scan s.1 most 0 0).2.1) else (([], (scan s.1 most 0 0).1), 0)
  else (s, 0)
def getText (s : RS) (most : Nat) : RS × List UInt8 :=
  if (get s most).1.2 = 0 then
    if (get s most).1.1.length < (get s most).2 then (([], 4), []) else (((get s most).1.1.drop (get s most).2, 0), (get s most).1.1.take (get s most).2)
  else ((get s most).1, [])
/-- Eight bytes as a word, the highest first. -/
def word8 (l : List UInt8) : UInt64 := (l.take 8).foldl (fun x c => x * 256 + c.toUInt64) 0
def getSum (s : RS) : RS × (UInt64 × UInt64) :=
  if s.2 = 0 then
    if s.1.length < 16 then (([], 4), (0, 0)) else ((s.1.drop 16, 0), (word8 s.1, word8 (s.1.drop 8)))
  else (s, (0, 0))
def ended (s : RS) : Nat := if s.2 = 0 ∧ 0 < s.1.length then 5 else s.2
end Vint
end Go.Proofs.Ytcibngbgcnnjnaa

