/- The walks of the texts of strong sums: reading, and the reference's writing and reading. No condition but sizes. -/
import Derived.Test.YtcibngbgcnnjnaaMixText
set_option linter.unusedVariables false
set_option linter.unusedSimpArgs false
namespace Go.Proofs.Ytcibngbgcnnjnaa
open Go Go.RowKit W
namespace Mix
/-- The lowest k half bytes' digits, the highest first. -/
def hexR (v : UInt64) : Nat → List UInt8
  | 0 => []
  | k + 1 => dg (nib v k) :: hexR v k
theorem nib_zero (v : UInt64) : nib v 0 = v := by unfold nib; simp
theorem nib_succ (v : UInt64) (k : Nat) : nib v k / 16 = nib v (k + 1) := by
  apply UInt64.toNat_inj.1
  unfold nib
  rw [UInt64.toNat_div, UInt64.toNat_ofNat', UInt64.toNat_ofNat']
  have h1 := v.toNat_lt
  have h2 : v.toNat / 2 ^ (4 * k) ≤ v.toNat := Nat.div_le_self _ _
  have h3 : v.toNat / 2 ^ (4 * (k + 1)) = v.toNat / 2 ^ (4 * k) / 16 := by rw [Nat.div_div_eq_div_mul, show 4 * (k + 1) = 4 * k + 4 by omega, Nat.pow_add]
  rw [h3, Nat.mod_eq_of_lt (by omega), Nat.mod_eq_of_lt (by omega)]
  rfl
theorem L_list (d e : Nat → UInt8) : L d e 16 = [d 0, d 1, d 2, d 3, d 4, d 5, d 6, d 7, d 8, d 9, d 10, d 11, d 12, d 13, d 14, d 15, e 0, e 1, e 2, e 3, e 4, e 5, e 6, e 7, e 8, e 9, e 10, e 11, e 12, e 13, e 14, e 15] := by
  simp [L, List.replicate]
theorem hexR_list (v : UInt64) : hexR v 16 = [up v 0, up v 1, up v 2, up v 3, up v 4, up v 5, up v 6, up v 7, up v 8, up v 9, up v 10, up v 11, up v 12, up v 13, up v 14, up v 15] := by
  simp only [hexR, up, Nat.reduceSub]
theorem L_all (v u : UInt64) : L (up v) (up u) 16 = hexR v 16 ++ hexR u 16 := by
  rw [L_list, hexR_list, hexR_list]
  rfl
@[simp] theorem hexR_length (v : UInt64) (k : Nat) : (hexR v k).length = k := by
  induction k with
  | zero => rfl
  | succ k ih => simp [hexR, ih]
theorem cut_all : ∀ m, m < 16 → List.take 1 (List.drop m [(48 : UInt8), 49, 50, 51, 52, 53, 54, 55, 56, 57, 97, 98, 99, 100, 101, 102]) = [digits.getD m 0] := by decide
theorem dg_cut (x : UInt64) (m : Nat) (h : x.toNat % 16 = m) (hm : m < 16) : List.take 1 (List.drop m [(48 : UInt8), 49, 50, 51, 52, 53, 54, 55, 56, 57, 97, 98, 99, 100, 101, 102]) = [dg x] := by
  rw [cut_all m hm, ← h]
  rfl
/-- A digit's value. -/
def val (c : UInt8) : Option UInt64 := if 48 ≤ c.toNat ∧ c.toNat ≤ 57 then some ((c.toUInt64 - 48) % 256) else if 97 ≤ c.toNat ∧ c.toNat ≤ 102 then some ((c.toUInt64 - 97) % 256 + 10) else none
def valV : Option UInt64 → Value
  | some n => .tuple #[.int .u64 (n64 n), .bool true]
  | none => .tuple #[.int .u64 0, .bool false]
theorem val_ways (c : UInt8) : (n8 c < 48 ∧ val c = none) ∨ ((48 : Int) ≤ n8 c ∧ n8 c ≤ 57 ∧ val c = some ((c.toUInt64 - 48) % 256)) ∨ ((57 : Int) < n8 c ∧ n8 c < 97 ∧ val c = none) ∨
    ((97 : Int) ≤ n8 c ∧ n8 c ≤ 102 ∧ val c = some ((c.toUInt64 - 97) % 256 + 10)) ∨ ((102 : Int) < n8 c ∧ val c = none) := by
  unfold n8 val
  rcases (show c.toNat < 48 ∨ (48 ≤ c.toNat ∧ c.toNat ≤ 57) ∨ (57 < c.toNat ∧ c.toNat < 97) ∨ (97 ≤ c.toNat ∧ c.toNat ≤ 102) ∨ 102 < c.toNat by omega) with h | h | h | h | h
  · exact .inl ⟨by omega, by rw [if_neg (by omega), if_neg (by omega)]⟩
  · exact .inr (.inl ⟨by omega, by omega, by rw [if_pos h]⟩)
  · exact .inr (.inr (.inl ⟨by omega, by omega, by rw [if_neg (by omega), if_neg (by omega)]⟩))
  · exact .inr (.inr (.inr (.inl ⟨by omega, by omega, by rw [if_neg (by omega), if_pos h]⟩)))
  · exact .inr (.inr (.inr (.inr ⟨by omega, by rw [if_neg (by omega), if_neg (by omega)]⟩)))
/-- Reading on: the number so far, and one digit more. -/
def numStep (n : Option UInt64) (c : UInt8) : Option UInt64 := n.bind fun n => (val c).map fun v => n * 16 + v
def num (l : List UInt8) : Option UInt64 := l.foldl numStep (some 0)
theorem foldl_none (l : List UInt8) : l.foldl numStep none = none := by
  induction l with
  | nil => rfl
  | cons c l ih => exact ih
theorem num_snoc (l : List UInt8) (k : Nat) (h : k < l.length) : num (l.take (k + 1)) = numStep (num (l.take k)) l[k] := by
  unfold num
  rw [List.take_succ_eq_append_getElem h, List.foldl_append]
  rfl
theorem num_stops (l : List UInt8) (k : Nat) (h : num (l.take k) = none) : num l = none := by
  have : num l = (l.drop k).foldl numStep (num (l.take k)) := by
    unfold num
    rw [← List.foldl_append, List.take_append_drop]
  rw [this, h, foldl_none]
attribute [go_sem] valV
end Mix
end Go.Proofs.Ytcibngbgcnnjnaa

