/- The walks of the texts of strong sums: writing, reading, and their reference. No condition but sizes. -/
import Derived.Test.YtcibngbgcnnjnaaMixWalk
set_option linter.unusedVariables false
set_option linter.unusedSimpArgs false
namespace Go.Proofs.Ytcibngbgcnnjnaa
open Go Go.RowKit W
namespace Mix
theorem byteType : ByteType Try.prog 5 := ⟨by kernel_rfl, by kernel_rfl⟩
def digits : List UInt8 := [48, 49, 50, 51, 52, 53, 54, 55, 56, 57, 97, 98, 99, 100, 101, 102]
def L (d e : Nat → UInt8) : Nat → List UInt8
  | 0 => List.replicate 32 0
  | k + 1 => ((L d e k).set k (d k)).set (16 + k) (e k)
theorem L_length (d e : Nat → UInt8) (k : Nat) : (L d e k).length = 32 := by
  induction k with
  | zero => simp [L]
  | succ k ih => simp [L, ih]
/-- The digit of a number below 16. -/
def dg (x : UInt64) : UInt8 := digits.getD (x.toNat % 16) 0
/-- The j-th half byte, the lowest first. -/
def nib (x : UInt64) (j : Nat) : UInt64 := UInt64.ofNat (x.toNat / 2 ^ (4 * j))
def up (x : UInt64) (k : Nat) : UInt8 := dg (nib x (15 - k))
theorem dg_get (x : UInt64) (h : (n64 (x &&& 15)).toNat < (⟨#[48, 49, 50, 51, 52, 53, 54, 55, 56, 57, 97, 98, 99, 100, 101, 102]⟩ : ByteArray).size) :
    (⟨#[48, 49, 50, 51, 52, 53, 54, 55, 56, 57, 97, 98, 99, 100, 101, 102]⟩ : ByteArray)[(n64 (x &&& 15)).toNat]'h = dg x := by
  have e : (n64 (x &&& 15)).toNat = x.toNat % 16 := by
    rw [n64_toNat, UInt64.toNat_and]
    exact Nat.and_two_pow_sub_one_eq_mod x.toNat 4
  unfold dg
  rw [← e]
  generalize (n64 (x &&& 15)).toNat = m at h
  have h' : m < 16 := h
  show (#[48, 49, 50, 51, 52, 53, 54, 55, 56, 57, 97, 98, 99, 100, 101, 102] : Array UInt8)[m] = _
  rw [← Array.getElem_toList]
  show digits[m] = _
  rw [List.getD_eq_getElem?_getD, List.getElem?_eq_getElem (show m < digits.length from h')]
  rfl
theorem and_lt16 (x : UInt64) : n64 (x &&& 15) < 16 := by
  have : (x &&& 15).toNat = x.toNat % 16 := by rw [UInt64.toNat_and]; exact Nat.and_two_pow_sub_one_eq_mod x.toNat 4
  unfold n64
  omega
theorem up_eq (x : UInt64) (k : Nat) (hk : k < 16) : dg (UInt64.ofInt (n64 x / 2 ^ (60 - 4 * k))) = up x k := by
  have e : n64 x / 2 ^ (60 - 4 * k) = ((x.toNat / 2 ^ (60 - 4 * k) : Nat) : Int) := by unfold n64; simp
  rw [e, w_ofNat_u64, show 60 - 4 * k = 4 * (15 - k) by omega]
  rfl
end Mix
end Go.Proofs.Ytcibngbgcnnjnaa

