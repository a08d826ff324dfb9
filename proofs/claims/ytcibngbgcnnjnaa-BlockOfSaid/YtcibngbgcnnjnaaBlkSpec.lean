/- The document's blocks: plain definitions, and laws on them. No program. No condition. -/
import Derived.Test.YtcibngbgcnnjnaaVintSpec
set_option linter.unusedVariables false
set_option linter.unusedSimpArgs false
namespace Go.Proofs.Ytcibngbgcnnjnaa
namespace Bl
def hold (size : Int) : Nat := if size < 4 then 4 else if 64 < size then 64 else size.toNat
theorem hold_pos (size : Int) : 4 ≤ hold size ∧ hold size ≤ 64 := by
  unfold hold
  split
  · omega
  · split <;> omega
/-- How many blocks n bytes have. -/
def count (n h : Nat) : Nat := n / h + if 0 < n % h then 1 else 0
theorem count_lt {n h k : Nat} (hh : 0 < h) : k < count n h ↔ k * h < n := by
  unfold count
  have hm := Nat.div_add_mod n h
  have hlt := Nat.mod_lt n hh
  constructor
  · intro hk
    split at hk
    · have h1 : k ≤ n / h := by omega
      have h2 : k * h ≤ n / h * h := Nat.mul_le_mul_right _ h1
      rw [Nat.mul_comm (n / h) h] at h2
      omega
    · have h1 : k + 1 ≤ n / h := by omega
      have h2 : (k + 1) * h ≤ n / h * h := Nat.mul_le_mul_right _ h1
      rw [Nat.mul_comm (n / h) h, Nat.succ_mul] at h2
      omega
  · intro hk
    rcases Nat.lt_or_ge k (n / h) with h1 | h1
    · split <;> omega
    · have h2 : n / h * h ≤ k * h := Nat.mul_le_mul_right _ h1
      rw [Nat.mul_comm (n / h) h] at h2
      rcases Nat.lt_or_ge (n / h) k with h3 | h3
      · have h4 : (n / h + 1) * h ≤ k * h := Nat.mul_le_mul_right _ h3
        rw [Nat.succ_mul, Nat.mul_comm (n / h) h] at h4
        omega
      · rw [if_pos (by omega)]
        omega
theorem count_le (n h : Nat) (hh : 0 < h) : count n h ≤ n := by
  rcases Nat.lt_or_ge n (count n h) with h1 | h1
  · have h2 := (count_lt (n := n) (k := n) hh).1 h1
    have : n ≤ n * h := Nat.le_mul_of_pos_right _ hh
    omega
  · exact h1
/-- Block k. -/
def at_ (l : List UInt8) (h k : Nat) : List UInt8 := (l.drop (k * h)).take h
def blocks (l : List UInt8) (h : Nat) : List (List UInt8) := (List.range (count l.length h)).map (at_ l h)
theorem blocks_len (l : List UInt8) (h : Nat) : (blocks l h).length = count l.length h := by simp [blocks]
theorem blocks_get (l : List UInt8) (h k : Nat) (hk : k < (blocks l h).length) : (blocks l h)[k] = at_ l h k := by simp [blocks]
theorem at_len (l : List UInt8) (h k : Nat) : (at_ l h k).length ≤ h := by simp [at_]; omega
/-- Many blocks, one behind the other. -/
def many (l : List UInt8) (h f m : Nat) : List UInt8 := (List.range m).flatMap fun i => at_ l h (f + i)
theorem many_zero (l : List UInt8) (h f : Nat) : many l h f 0 = [] := rfl
theorem many_succ (l : List UInt8) (h f m : Nat) : many l h f (m + 1) = many l h f m ++ at_ l h (f + m) := by
  unfold many
  rw [List.range_succ, List.flatMap_append]
  simp
theorem many_len (l : List UInt8) (h f m : Nat) : (many l h f m).length ≤ m * h := by
  induction m with
  | zero => simp [many]
  | succ m ih =>
    rw [many_succ, List.length_append, Nat.succ_mul]
    have := at_len l h (f + m)
    omega
/-- All blocks are all bytes. -/
theorem many_take (l : List UInt8) (h : Nat) (hh : 0 < h) (m : Nat) : many l h 0 m = l.take (m * h) := by
  induction m with
  | zero => simp [many]
  | succ m ih =>
    rw [many_succ, ih, Nat.zero_add, Nat.succ_mul, List.take_add]
    rfl
theorem many_all (l : List UInt8) (h : Nat) (hh : 0 < h) : many l h 0 (count l.length h) = l := by
  rw [many_take l h hh]
  apply List.take_of_length_le
  rcases Nat.lt_or_ge (count l.length h * h) l.length with h1 | h1
  · have := (count_lt (n := l.length) (k := count l.length h) hh).2 h1
    omega
  · exact h1
theorem many_add (l : List UInt8) (h f a b : Nat) : many l h f a ++ many l h (f + a) b = many l h f (a + b) := by
  induction b with
  | zero => simp [many_zero]
  | succ b ih => rw [many_succ, ← List.append_assoc, ih, ← Nat.add_assoc, many_succ, Nat.add_assoc]
end Bl
end Go.Proofs.Ytcibngbgcnnjnaa

