/- The walks of putting numbers, texts and sums as bytes. No condition but sizes. -/
import Derived.Test.YtgnogoghfendpaaMemB
import Derived.Test.YtgnogoghfendpaaVintSpec
import Derived.Test.YtgnogoghfendpaaProg
set_option linter.unusedVariables false
set_option linter.unusedSimpArgs false
namespace Go.Proofs.Ytgnogoghfendpaa
open Go Go.RowKit W
namespace Vint
theorem byteType : ByteType Try.prog 5 := ⟨by kernel_rfl, by kernel_rfl⟩
theorem low7 (n : UInt64) : n.toUInt8 ||| 128 = UInt8.ofNat (n.toNat % 128 + 128) := by
  apply UInt8.toNat_inj.1
  rw [UInt8.toNat_or]
  have e : n.toUInt8.toNat = n.toNat % 256 := by simp
  rw [e]
  have h : ∀ k, k < 256 → k ||| 128 = k % 128 + 128 := by decide +kernel
  have h2 := h (n.toNat % 256) (by omega)
  show n.toNat % 256 ||| 128 = _
  rw [h2, UInt8.toNat_ofNat']
  omega
theorem last7 (n : UInt64) (h : n.toNat < 128) : n.toUInt8 = UInt8.ofNat n.toNat := by
  apply UInt8.toNat_inj.1
  simp
/-! ### sums -/
theorem shr_be (z : UInt64) (i : Nat) (h : i < 8) : UInt8.ofInt (n64 z / 2 ^ (56 - 8 * i)) = UInt8.ofNat (z.toNat / 256 ^ (7 - i)) := by
  have e2 : (2 : Nat) ^ (56 - 8 * i) = 256 ^ (7 - i) := by rw [show 56 - 8 * i = 8 * (7 - i) by omega, Nat.pow_mul]
  have e : n64 z / 2 ^ (56 - 8 * i) = ((z.toNat / 2 ^ (56 - 8 * i) : Nat) : Int) := by unfold n64; simp
  rw [e, e2, w_ofNat_u8]
def bep (z : UInt64) (k : Nat) : List UInt8 := (List.range k).map fun i => UInt8.ofNat (z.toNat / 256 ^ (7 - i))
theorem bep_succ (z : UInt64) (k : Nat) : bep z (k + 1) = bep z k ++ [UInt8.ofNat (z.toNat / 256 ^ (7 - k))] := by simp [bep, List.range_succ]
theorem bep_length (z : UInt64) (k : Nat) : (bep z k).length = k := by simp [bep]
theorem fl_length (ws : List UInt64) (k : Nat) : ((ws.take k).flatMap be8).length ≤ 8 * k := by
  have : ∀ l : List UInt64, (l.flatMap be8).length = 8 * l.length := by
    intro l
    induction l with
    | nil => rfl
    | cons x l ih => rw [List.flatMap_cons, List.length_append, ih, be8_length, List.length_cons]; omega
  rw [this, List.length_take]
  omega
theorem fl_succ {ws : List UInt64} {k : Nat} (h : k < ws.length) : (ws.take (k + 1)).flatMap be8 = (ws.take k).flatMap be8 ++ bep ws[k] 8 := by
  rw [List.take_succ_eq_append_getElem h, List.flatMap_append]
  simp [bep, be8]
end Vint
end Go.Proofs.Ytgnogoghfendpaa

