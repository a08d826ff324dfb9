/- Machine words in a walk: an unsigned number in a frame is spelled 'nK x', x : UIntK; the laws by which the walk's own operations keep to that spelling. No condition. -/
import Derived.WalkKit
set_option linter.unusedVariables false
set_option linter.unusedSimpArgs false
namespace Go.Proofs.Ytpkbdodclkgjpaa
namespace W
def n8 (x : UInt8) : Int := (x.toNat : Int)
theorem n8_def (x : UInt8) : n8 x = (x.toNat : Int) := rfl
theorem n8_pos (x : UInt8) : 0 ≤ n8 x := Int.natCast_nonneg _
theorem n8_lt (x : UInt8) : n8 x < 256 := by have := x.toNat_lt; unfold n8; omega
theorem n8_toNat (x : UInt8) : (n8 x).toNat = x.toNat := rfl
theorem n8_inj (x y : UInt8) : (n8 x = n8 y) = (x = y) := by
  unfold n8
  exact propext ⟨fun h => UInt8.toNat_inj.1 (by omega), fun h => by rw [h]⟩
theorem n8_beq (x y : UInt8) : (n8 x == n8 y) = (x == y) := by
  rw [Bool.eq_iff_iff, beq_iff_eq, beq_iff_eq, n8_inj]
theorem n8_bne (x y : UInt8) : (n8 x != n8 y) = (x != y) := by
  simp only [bne, n8_beq]
theorem n8_zero : n8 0 = 0 := rfl
theorem n8_one : n8 1 = 1 := rfl
theorem n8_lit (m : Nat) (h : m < 256) : n8 (OfNat.ofNat m : UInt8) = (OfNat.ofNat m : Int) := by
  show ((UInt8.ofNat m).toNat : Int) = (m : Int)
  rw [UInt8.toNat_ofNat', Nat.mod_eq_of_lt h]
theorem w_ofNat_u8 (n : Nat) : UInt8.ofInt (n : Int) = UInt8.ofNat n := by
  apply UInt8.toNat_inj.1
  simp only [UInt8.ofInt, UInt8.toNat_ofNat']
  omega
theorem w_toBV_u8 (n : Int) : BitVec.ofInt 8 n = (UInt8.ofInt n).toBitVec := by
  apply BitVec.eq_of_toNat_eq
  simp only [UInt8.ofInt, BitVec.toNat_ofInt, UInt8.toNat_toBitVec, UInt8.toNat_ofNat']; omega
theorem w_ofBV_u8 (b : BitVec 8) : UInt8.ofInt (b.toNat : Int) = ⟨b⟩ := by
  rw [w_ofNat_u8]
  apply UInt8.toNat_inj.1
  simp [UInt8.toNat]
theorem w_self_u8 (a : UInt8) : UInt8.ofInt (n8 a) = a := by
  unfold n8; rw [w_ofNat_u8]; simp
theorem w_lit_u8 (n : Nat) : UInt8.ofInt (no_index (OfNat.ofNat n) : Int) = (OfNat.ofNat n : UInt8) := w_ofNat_u8 n
theorem w_zero_u8 : UInt8.ofInt 0 = 0 := rfl
theorem w_one_u8 : UInt8.ofInt 1 = 1 := rfl
theorem w_sub_u8 (m n : Int) : UInt8.ofInt (m - n) = UInt8.ofInt m - UInt8.ofInt n := by
  rw [Int.sub_eq_add_neg, UInt8.ofInt_add, UInt8.ofInt_neg, UInt8.sub_eq_add_neg]
theorem w_wrap_u8 (n : Int) : IntKind.u8.wrap n = n8 (UInt8.ofInt n) := by
  simp only [n8, IntKind.wrap, IntKind.bits, IntKind.signed, UInt8.ofInt, UInt8.toNat_ofNat', Bool.false_and, Bool.false_eq_true, if_false]
  omega
theorem w_and_u8 (m n : Int) : bits .and .u8 m n = n8 (UInt8.ofInt m &&& UInt8.ofInt n) := by
  show IntKind.u8.wrap ((BitVec.ofInt 8 m &&& BitVec.ofInt 8 n).toNat : Int) = _
  rw [w_wrap_u8, w_toBV_u8 m, w_toBV_u8 n, w_ofBV_u8]
  rfl
theorem w_or_u8 (m n : Int) : bits .or .u8 m n = n8 (UInt8.ofInt m ||| UInt8.ofInt n) := by
  show IntKind.u8.wrap ((BitVec.ofInt 8 m ||| BitVec.ofInt 8 n).toNat : Int) = _
  rw [w_wrap_u8, w_toBV_u8 m, w_toBV_u8 n, w_ofBV_u8]
  rfl
theorem w_xor_u8 (m n : Int) : bits .xor .u8 m n = n8 (UInt8.ofInt m ^^^ UInt8.ofInt n) := by
  show IntKind.u8.wrap ((BitVec.ofInt 8 m ^^^ BitVec.ofInt 8 n).toNat : Int) = _
  rw [w_wrap_u8, w_toBV_u8 m, w_toBV_u8 n, w_ofBV_u8]
  rfl
theorem w_andNot_u8 (m n : Int) : bits .andNot .u8 m n = n8 (UInt8.ofInt m &&& ~~~ UInt8.ofInt n) := by
  show IntKind.u8.wrap ((BitVec.ofInt 8 m &&& ~~~ BitVec.ofInt 8 n).toNat : Int) = _
  rw [w_wrap_u8, w_toBV_u8 m, w_toBV_u8 n, w_ofBV_u8]
  rfl
def n16 (x : UInt16) : Int := (x.toNat : Int)
theorem n16_def (x : UInt16) : n16 x = (x.toNat : Int) := rfl
theorem n16_pos (x : UInt16) : 0 ≤ n16 x := Int.natCast_nonneg _
theorem n16_lt (x : UInt16) : n16 x < 65536 := by have := x.toNat_lt; unfold n16; omega
theorem n16_toNat (x : UInt16) : (n16 x).toNat = x.toNat := rfl
theorem n16_inj (x y : UInt16) : (n16 x = n16 y) = (x = y) := by
  unfold n16
  exact propext ⟨fun h => UInt16.toNat_inj.1 (by omega), fun h => by rw [h]⟩
theorem n16_beq (x y : UInt16) : (n16 x == n16 y) = (x == y) := by
  rw [Bool.eq_iff_iff, beq_iff_eq, beq_iff_eq, n16_inj]
theorem n16_bne (x y : UInt16) : (n16 x != n16 y) = (x != y) := by
  simp only [bne, n16_beq]
theorem n16_zero : n16 0 = 0 := rfl
theorem n16_one : n16 1 = 1 := rfl
theorem n16_lit (m : Nat) (h : m < 65536) : n16 (OfNat.ofNat m : UInt16) = (OfNat.ofNat m : Int) := by
  show ((UInt16.ofNat m).toNat : Int) = (m : Int)
  rw [UInt16.toNat_ofNat', Nat.mod_eq_of_lt h]
theorem w_ofNat_u16 (n : Nat) : UInt16.ofInt (n : Int) = UInt16.ofNat n := by
  apply UInt16.toNat_inj.1
  simp only [UInt16.ofInt, UInt16.toNat_ofNat']
  omega
theorem w_toBV_u16 (n : Int) : BitVec.ofInt 16 n = (UInt16.ofInt n).toBitVec := by
  apply BitVec.eq_of_toNat_eq
  simp only [UInt16.ofInt, BitVec.toNat_ofInt, UInt16.toNat_toBitVec, UInt16.toNat_ofNat']; omega
theorem w_ofBV_u16 (b : BitVec 16) : UInt16.ofInt (b.toNat : Int) = ⟨b⟩ := by
  rw [w_ofNat_u16]
  apply UInt16.toNat_inj.1
  simp [UInt16.toNat]
theorem w_self_u16 (a : UInt16) : UInt16.ofInt (n16 a) = a := by
  unfold n16; rw [w_ofNat_u16]; simp
theorem w_lit_u16 (n : Nat) : UInt16.ofInt (no_index (OfNat.ofNat n) : Int) = (OfNat.ofNat n : UInt16) := w_ofNat_u16 n
theorem w_zero_u16 : UInt16.ofInt 0 = 0 := rfl
theorem w_one_u16 : UInt16.ofInt 1 = 1 := rfl
theorem w_sub_u16 (m n : Int) : UInt16.ofInt (m - n) = UInt16.ofInt m - UInt16.ofInt n := by
  rw [Int.sub_eq_add_neg, UInt16.ofInt_add, UInt16.ofInt_neg, UInt16.sub_eq_add_neg]
theorem w_wrap_u16 (n : Int) : IntKind.u16.wrap n = n16 (UInt16.ofInt n) := by
  simp only [n16, IntKind.wrap, IntKind.bits, IntKind.signed, UInt16.ofInt, UInt16.toNat_ofNat', Bool.false_and, Bool.false_eq_true, if_false]
  omega
theorem w_and_u16 (m n : Int) : bits .and .u16 m n = n16 (UInt16.ofInt m &&& UInt16.ofInt n) := by
  show IntKind.u16.wrap ((BitVec.ofInt 16 m &&& BitVec.ofInt 16 n).toNat : Int) = _
  rw [w_wrap_u16, w_toBV_u16 m, w_toBV_u16 n, w_ofBV_u16]
  rfl
theorem w_or_u16 (m n : Int) : bits .or .u16 m n = n16 (UInt16.ofInt m ||| UInt16.ofInt n) := by
  show IntKind.u16.wrap ((BitVec.ofInt 16 m ||| BitVec.ofInt 16 n).toNat : Int) = _
  rw [w_wrap_u16, w_toBV_u16 m, w_toBV_u16 n, w_ofBV_u16]
  rfl
theorem w_xor_u16 (m n : Int) : bits .xor .u16 m n = n16 (UInt16.ofInt m ^^^ UInt16.ofInt n) := by
  show IntKind.u16.wrap ((BitVec.ofInt 16 m ^^^ BitVec.ofInt 16 n).toNat : Int) = _
  rw [w_wrap_u16, w_toBV_u16 m, w_toBV_u16 n, w_ofBV_u16]
  rfl
theorem w_andNot_u16 (m n : Int) : bits .andNot .u16 m n = n16 (UInt16.ofInt m &&& ~~~ UInt16.ofInt n) := by
  show IntKind.u16.wrap ((BitVec.ofInt 16 m &&& ~~~ BitVec.ofInt 16 n).toNat : Int) = _
  rw [w_wrap_u16, w_toBV_u16 m, w_toBV_u16 n, w_ofBV_u16]
  rfl
def n32 (x : UInt32) : Int := (x.toNat : Int)
theorem n32_def (x : UInt32) : n32 x = (x.toNat : Int) := rfl
theorem n32_pos (x : UInt32) : 0 ≤ n32 x := Int.natCast_nonneg _
theorem n32_lt (x : UInt32) : n32 x < 4294967296 := by have := x.toNat_lt; unfold n32; omega
theorem n32_toNat (x : UInt32) : (n32 x).toNat = x.toNat := rfl
theorem n32_inj (x y : UInt32) : (n32 x = n32 y) = (x = y) := by
  unfold n32
  exact propext ⟨fun h => UInt32.toNat_inj.1 (by omega), fun h => by rw [h]⟩
theorem n32_beq (x y : UInt32) : (n32 x == n32 y) = (x == y) := by
  rw [Bool.eq_iff_iff, beq_iff_eq, beq_iff_eq, n32_inj]
theorem n32_bne (x y : UInt32) : (n32 x != n32 y) = (x != y) := by
  simp only [bne, n32_beq]
theorem n32_zero : n32 0 = 0 := rfl
theorem n32_one : n32 1 = 1 := rfl
theorem n32_lit (m : Nat) (h : m < 4294967296) : n32 (OfNat.ofNat m : UInt32) = (OfNat.ofNat m : Int) := by
  show ((UInt32.ofNat m).toNat : Int) = (m : Int)
  rw [UInt32.toNat_ofNat', Nat.mod_eq_of_lt h]
theorem w_ofNat_u32 (n : Nat) : UInt32.ofInt (n : Int) = UInt32.ofNat n := by
  apply UInt32.toNat_inj.1
  simp only [UInt32.ofInt, UInt32.toNat_ofNat']
  omega
theorem w_toBV_u32 (n : Int) : BitVec.ofInt 32 n = (UInt32.ofInt n).toBitVec := by
  apply BitVec.eq_of_toNat_eq
  simp only [UInt32.ofInt, BitVec.toNat_ofInt, UInt32.toNat_toBitVec, UInt32.toNat_ofNat']; omega
theorem w_ofBV_u32 (b : BitVec 32) : UInt32.ofInt (b.toNat : Int) = ⟨b⟩ := by
  rw [w_ofNat_u32]
  apply UInt32.toNat_inj.1
  simp [UInt32.toNat]
theorem w_self_u32 (a : UInt32) : UInt32.ofInt (n32 a) = a := by
  unfold n32; rw [w_ofNat_u32]; simp
theorem w_lit_u32 (n : Nat) : UInt32.ofInt (no_index (OfNat.ofNat n) : Int) = (OfNat.ofNat n : UInt32) := w_ofNat_u32 n
theorem w_zero_u32 : UInt32.ofInt 0 = 0 := rfl
theorem w_one_u32 : UInt32.ofInt 1 = 1 := rfl
theorem w_sub_u32 (m n : Int) : UInt32.ofInt (m - n) = UInt32.ofInt m - UInt32.ofInt n := by
  rw [Int.sub_eq_add_neg, UInt32.ofInt_add, UInt32.ofInt_neg, UInt32.sub_eq_add_neg]
theorem w_wrap_u32 (n : Int) : IntKind.u32.wrap n = n32 (UInt32.ofInt n) := by
  simp only [n32, IntKind.wrap, IntKind.bits, IntKind.signed, UInt32.ofInt, UInt32.toNat_ofNat', Bool.false_and, Bool.false_eq_true, if_false]
  omega
theorem w_and_u32 (m n : Int) : bits .and .u32 m n = n32 (UInt32.ofInt m &&& UInt32.ofInt n) := by
  show IntKind.u32.wrap ((BitVec.ofInt 32 m &&& BitVec.ofInt 32 n).toNat : Int) = _
  rw [w_wrap_u32, w_toBV_u32 m, w_toBV_u32 n, w_ofBV_u32]
  rfl
theorem w_or_u32 (m n : Int) : bits .or .u32 m n = n32 (UInt32.ofInt m ||| UInt32.ofInt n) := by
  show IntKind.u32.wrap ((BitVec.ofInt 32 m ||| BitVec.ofInt 32 n).toNat : Int) = _
  rw [w_wrap_u32, w_toBV_u32 m, w_toBV_u32 n, w_ofBV_u32]
  rfl
theorem w_xor_u32 (m n : Int) : bits .xor .u32 m n = n32 (UInt32.ofInt m ^^^ UInt32.ofInt n) := by
  show IntKind.u32.wrap ((BitVec.ofInt 32 m ^^^ BitVec.ofInt 32 n).toNat : Int) = _
  rw [w_wrap_u32, w_toBV_u32 m, w_toBV_u32 n, w_ofBV_u32]
  rfl
theorem w_andNot_u32 (m n : Int) : bits .andNot .u32 m n = n32 (UInt32.ofInt m &&& ~~~ UInt32.ofInt n) := by
  show IntKind.u32.wrap ((BitVec.ofInt 32 m &&& ~~~ BitVec.ofInt 32 n).toNat : Int) = _
  rw [w_wrap_u32, w_toBV_u32 m, w_toBV_u32 n, w_ofBV_u32]
  rfl
def n64 (x : UInt64) : Int := (x.toNat : Int)
theorem n64_def (x : UInt64) : n64 x = (x.toNat : Int) := rfl
theorem n64_pos (x : UInt64) : 0 ≤ n64 x := Int.natCast_nonneg _
theorem n64_lt (x : UInt64) : n64 x < 18446744073709551616 := by have := x.toNat_lt; unfold n64; omega
theorem n64_toNat (x : UInt64) : (n64 x).toNat = x.toNat := rfl
theorem n64_inj (x y : UInt64) : (n64 x = n64 y) = (x = y) := by
  unfold n64
  exact propext ⟨fun h => UInt64.toNat_inj.1 (by omega), fun h => by rw [h]⟩
theorem n64_beq (x y : UInt64) : (n64 x == n64 y) = (x == y) := by
  rw [Bool.eq_iff_iff, beq_iff_eq, beq_iff_eq, n64_inj]
theorem n64_bne (x y : UInt64) : (n64 x != n64 y) = (x != y) := by
  simp only [bne, n64_beq]
theorem n64_zero : n64 0 = 0 := rfl
theorem n64_one : n64 1 = 1 := rfl
theorem n64_lit (m : Nat) (h : m < 18446744073709551616) : n64 (OfNat.ofNat m : UInt64) = (OfNat.ofNat m : Int) := by
  show ((UInt64.ofNat m).toNat : Int) = (m : Int)
  rw [UInt64.toNat_ofNat', Nat.mod_eq_of_lt h]
theorem w_ofNat_u64 (n : Nat) : UInt64.ofInt (n : Int) = UInt64.ofNat n := by
  apply UInt64.toNat_inj.1
  simp only [UInt64.ofInt, UInt64.toNat_ofNat']
  omega
theorem w_toBV_u64 (n : Int) : BitVec.ofInt 64 n = (UInt64.ofInt n).toBitVec := by
  apply BitVec.eq_of_toNat_eq
  simp only [UInt64.ofInt, BitVec.toNat_ofInt, UInt64.toNat_toBitVec, UInt64.toNat_ofNat']; omega
theorem w_ofBV_u64 (b : BitVec 64) : UInt64.ofInt (b.toNat : Int) = ⟨b⟩ := by
  rw [w_ofNat_u64]
  apply UInt64.toNat_inj.1
  simp [UInt64.toNat]
theorem w_self_u64 (a : UInt64) : UInt64.ofInt (n64 a) = a := by
  unfold n64; rw [w_ofNat_u64]; simp
theorem w_lit_u64 (n : Nat) : UInt64.ofInt (no_index (OfNat.ofNat n) : Int) = (OfNat.ofNat n : UInt64) := w_ofNat_u64 n
theorem w_zero_u64 : UInt64.ofInt 0 = 0 := rfl
theorem w_one_u64 : UInt64.ofInt 1 = 1 := rfl
theorem w_sub_u64 (m n : Int) : UInt64.ofInt (m - n) = UInt64.ofInt m - UInt64.ofInt n := by
  rw [Int.sub_eq_add_neg, UInt64.ofInt_add, UInt64.ofInt_neg, UInt64.sub_eq_add_neg]
theorem w_wrap_u64 (n : Int) : IntKind.u64.wrap n = n64 (UInt64.ofInt n) := by
  simp only [n64, IntKind.wrap, IntKind.bits, IntKind.signed, UInt64.ofInt, UInt64.toNat_ofNat', Bool.false_and, Bool.false_eq_true, if_false]
  omega
theorem w_and_u64 (m n : Int) : bits .and .u64 m n = n64 (UInt64.ofInt m &&& UInt64.ofInt n) := by
  show IntKind.u64.wrap ((BitVec.ofInt 64 m &&& BitVec.ofInt 64 n).toNat : Int) = _
  rw [w_wrap_u64, w_toBV_u64 m, w_toBV_u64 n, w_ofBV_u64]
  rfl
theorem w_or_u64 (m n : Int) : bits .or .u64 m n = n64 (UInt64.ofInt m ||| UInt64.ofInt n) := by
  show IntKind.u64.wrap ((BitVec.ofInt 64 m ||| BitVec.ofInt 64 n).toNat : Int) = _
  rw [w_wrap_u64, w_toBV_u64 m, w_toBV_u64 n, w_ofBV_u64]
  rfl
theorem w_xor_u64 (m n : Int) : bits .xor .u64 m n = n64 (UInt64.ofInt m ^^^ UInt64.ofInt n) := by
  show IntKind.u64.wrap ((BitVec.ofInt 64 m ^^^ BitVec.ofInt 64 n).toNat : Int) = _
  rw [w_wrap_u64, w_toBV_u64 m, w_toBV_u64 n, w_ofBV_u64]
  rfl
theorem w_andNot_u64 (m n : Int) : bits .andNot .u64 m n = n64 (UInt64.ofInt m &&& ~~~ UInt64.ofInt n) := by
  show IntKind.u64.wrap ((BitVec.ofInt 64 m &&& ~~~ BitVec.ofInt 64 n).toNat : Int) = _
  rw [w_wrap_u64, w_toBV_u64 m, w_toBV_u64 n, w_ofBV_u64]
  rfl
theorem w_of_u16_u8 (a : UInt16) : UInt8.ofInt (n16 a) = a.toUInt8 := by
  unfold n16; rw [w_ofNat_u8]; simp
theorem w_of_u32_u8 (a : UInt32) : UInt8.ofInt (n32 a) = a.toUInt8 := by
  unfold n32; rw [w_ofNat_u8]; simp
theorem w_of_u64_u8 (a : UInt64) : UInt8.ofInt (n64 a) = a.toUInt8 := by
  unfold n64; rw [w_ofNat_u8]; simp
theorem w_div_u8 (a b : UInt8) : (n8 a).tdiv (n8 b) = n8 (a / b) := by
  unfold n8; rw [UInt8.toNat_div]; rfl
theorem w_divlit_u8 (a : UInt8) (n : Nat) (h : n < 256) : (n8 a).tdiv (no_index (OfNat.ofNat n) : Int) = n8 (a / (OfNat.ofNat n : UInt8)) := by
  have e : (OfNat.ofNat n : Int) = n8 (OfNat.ofNat n : UInt8) := (n8_lit n h).symm
  rw [e, w_div_u8]
theorem w_mod_u8 (a b : UInt8) : (n8 a).tmod (n8 b) = n8 (a % b) := by
  unfold n8; rw [UInt8.toNat_mod]; rfl
theorem w_modlit_u8 (a : UInt8) (n : Nat) (h : n < 256) : (n8 a).tmod (no_index (OfNat.ofNat n) : Int) = n8 (a % (OfNat.ofNat n : UInt8)) := by
  have e : (OfNat.ofNat n : Int) = n8 (OfNat.ofNat n : UInt8) := (n8_lit n h).symm
  rw [e, w_mod_u8]
theorem w_ediv_u8 (a : UInt8) (n : Nat) (h : n < 256) : (n8 a) / (no_index (OfNat.ofNat n) : Int) = n8 (a / (OfNat.ofNat n : UInt8)) := by
  have e : (OfNat.ofNat n : Int) = n8 (OfNat.ofNat n : UInt8) := (n8_lit n h).symm
  rw [e]; unfold n8; rw [UInt8.toNat_div]; rfl
theorem w_emod_u8 (a : UInt8) (n : Nat) (h : n < 256) : (n8 a) % (no_index (OfNat.ofNat n) : Int) = n8 (a % (OfNat.ofNat n : UInt8)) := by
  have e : (OfNat.ofNat n : Int) = n8 (OfNat.ofNat n : UInt8) := (n8_lit n h).symm
  rw [e]; unfold n8; rw [UInt8.toNat_mod]; rfl
theorem w_of_u8_u16 (a : UInt8) : UInt16.ofInt (n8 a) = a.toUInt16 := by
  unfold n8; rw [w_ofNat_u16]; simp
theorem w_of_u32_u16 (a : UInt32) : UInt16.ofInt (n32 a) = a.toUInt16 := by
  unfold n32; rw [w_ofNat_u16]; simp
theorem w_of_u64_u16 (a : UInt64) : UInt16.ofInt (n64 a) = a.toUInt16 := by
  unfold n64; rw [w_ofNat_u16]; simp
theorem w_div_u16 (a b : UInt16) : (n16 a).tdiv (n16 b) = n16 (a / b) := by
  unfold n16; rw [UInt16.toNat_div]; rfl
theorem w_divlit_u16 (a : UInt16) (n : Nat) (h : n < 65536) : (n16 a).tdiv (no_index (OfNat.ofNat n) : Int) = n16 (a / (OfNat.ofNat n : UInt16)) := by
  have e : (OfNat.ofNat n : Int) = n16 (OfNat.ofNat n : UInt16) := (n16_lit n h).symm
  rw [e, w_div_u16]
theorem w_mod_u16 (a b : UInt16) : (n16 a).tmod (n16 b) = n16 (a % b) := by
  unfold n16; rw [UInt16.toNat_mod]; rfl
theorem w_modlit_u16 (a : UInt16) (n : Nat) (h : n < 65536) : (n16 a).tmod (no_index (OfNat.ofNat n) : Int) = n16 (a % (OfNat.ofNat n : UInt16)) := by
  have e : (OfNat.ofNat n : Int) = n16 (OfNat.ofNat n : UInt16) := (n16_lit n h).symm
  rw [e, w_mod_u16]
theorem w_ediv_u16 (a : UInt16) (n : Nat) (h : n < 65536) : (n16 a) / (no_index (OfNat.ofNat n) : Int) = n16 (a / (OfNat.ofNat n : UInt16)) := by
  have e : (OfNat.ofNat n : Int) = n16 (OfNat.ofNat n : UInt16) := (n16_lit n h).symm
  rw [e]; unfold n16; rw [UInt16.toNat_div]; rfl
theorem w_emod_u16 (a : UInt16) (n : Nat) (h : n < 65536) : (n16 a) % (no_index (OfNat.ofNat n) : Int) = n16 (a % (OfNat.ofNat n : UInt16)) := by
  have e : (OfNat.ofNat n : Int) = n16 (OfNat.ofNat n : UInt16) := (n16_lit n h).symm
  rw [e]; unfold n16; rw [UInt16.toNat_mod]; rfl
theorem w_of_u8_u32 (a : UInt8) : UInt32.ofInt (n8 a) = a.toUInt32 := by
  unfold n8; rw [w_ofNat_u32]; simp
theorem w_of_u16_u32 (a : UInt16) : UInt32.ofInt (n16 a) = a.toUInt32 := by
  unfold n16; rw [w_ofNat_u32]; simp
theorem w_of_u64_u32 (a : UInt64) : UInt32.ofInt (n64 a) = a.toUInt32 := by
  unfold n64; rw [w_ofNat_u32]; simp
theorem w_div_u32 (a b : UInt32) : (n32 a).tdiv (n32 b) = n32 (a / b) := by
  unfold n32; rw [UInt32.toNat_div]; rfl
theorem w_divlit_u32 (a : UInt32) (n : Nat) (h : n < 4294967296) : (n32 a).tdiv (no_index (OfNat.ofNat n) : Int) = n32 (a / (OfNat.ofNat n : UInt32)) := by
  have e : (OfNat.ofNat n : Int) = n32 (OfNat.ofNat n : UInt32) := (n32_lit n h).symm
  rw [e, w_div_u32]
theorem w_mod_u32 (a b : UInt32) : (n32 a).tmod (n32 b) = n32 (a % b) := by
  unfold n32; rw [UInt32.toNat_mod]; rfl
theorem w_modlit_u32 (a : UInt32) (n : Nat) (h : n < 4294967296) : (n32 a).tmod (no_index (OfNat.ofNat n) : Int) = n32 (a % (OfNat.ofNat n : UInt32)) := by
  have e : (OfNat.ofNat n : Int) = n32 (OfNat.ofNat n : UInt32) := (n32_lit n h).symm
  rw [e, w_mod_u32]
theorem w_ediv_u32 (a : UInt32) (n : Nat) (h : n < 4294967296) : (n32 a) / (no_index (OfNat.ofNat n) : Int) = n32 (a / (OfNat.ofNat n : UInt32)) := by
  have e : (OfNat.ofNat n : Int) = n32 (OfNat.ofNat n : UInt32) := (n32_lit n h).symm
  rw [e]; unfold n32; rw [UInt32.toNat_div]; rfl
theorem w_emod_u32 (a : UInt32) (n : Nat) (h : n < 4294967296) : (n32 a) % (no_index (OfNat.ofNat n) : Int) = n32 (a % (OfNat.ofNat n : UInt32)) := by
  have e : (OfNat.ofNat n : Int) = n32 (OfNat.ofNat n : UInt32) := (n32_lit n h).symm
  rw [e]; unfold n32; rw [UInt32.toNat_mod]; rfl
theorem w_of_u8_u64 (a : UInt8) : UInt64.ofInt (n8 a) = a.toUInt64 := by
  unfold n8; rw [w_ofNat_u64]; simp
theorem w_of_u16_u64 (a : UInt16) : UInt64.ofInt (n16 a) = a.toUInt64 := by
  unfold n16; rw [w_ofNat_u64]; simp
theorem w_of_u32_u64 (a : UInt32) : UInt64.ofInt (n32 a) = a.toUInt64 := by
  unfold n32; rw [w_ofNat_u64]; simp
theorem w_div_u64 (a b : UInt64) : (n64 a).tdiv (n64 b) = n64 (a / b) := by
  unfold n64; rw [UInt64.toNat_div]; rfl
theorem w_divlit_u64 (a : UInt64) (n : Nat) (h : n < 18446744073709551616) : (n64 a).tdiv (no_index (OfNat.ofNat n) : Int) = n64 (a / (OfNat.ofNat n : UInt64)) := by
  have e : (OfNat.ofNat n : Int) = n64 (OfNat.ofNat n : UInt64) := (n64_lit n h).symm
  rw [e, w_div_u64]
theorem w_mod_u64 (a b : UInt64) : (n64 a).tmod (n64 b) = n64 (a % b) := by
  unfold n64; rw [UInt64.toNat_mod]; rfl
theorem w_modlit_u64 (a : UInt64) (n : Nat) (h : n < 18446744073709551616) : (n64 a).tmod (no_index (OfNat.ofNat n) : Int) = n64 (a % (OfNat.ofNat n : UInt64)) := by
  have e : (OfNat.ofNat n : Int) = n64 (OfNat.ofNat n : UInt64) := (n64_lit n h).symm
  rw [e, w_mod_u64]
theorem w_ediv_u64 (a : UInt64) (n : Nat) (h : n < 18446744073709551616) : (n64 a) / (no_index (OfNat.ofNat n) : Int) = n64 (a / (OfNat.ofNat n : UInt64)) := by
  have e : (OfNat.ofNat n : Int) = n64 (OfNat.ofNat n : UInt64) := (n64_lit n h).symm
  rw [e]; unfold n64; rw [UInt64.toNat_div]; rfl
theorem w_emod_u64 (a : UInt64) (n : Nat) (h : n < 18446744073709551616) : (n64 a) % (no_index (OfNat.ofNat n) : Int) = n64 (a % (OfNat.ofNat n : UInt64)) := by
  have e : (OfNat.ofNat n : Int) = n64 (OfNat.ofNat n : UInt64) := (n64_lit n h).symm
  rw [e]; unfold n64; rw [UInt64.toNat_mod]; rfl
theorem w_i64_u8 (a : UInt8) : IntKind.i64.wrap (n8 a) = n8 a := by
  have h1 := n8_pos a
  have h2 := n8_lt a
  exact IntWalk.i64_in _ (by omega)
theorem w_w64_u8 (a : UInt8) : RowKit.wrap64 (n8 a) = n8 a := by
  have h1 := n8_pos a
  have h2 := n8_lt a
  exact IntWalk.wrap64_in _ (by omega)
theorem w_i64_u16 (a : UInt16) : IntKind.i64.wrap (n16 a) = n16 a := by
  have h1 := n16_pos a
  have h2 := n16_lt a
  exact IntWalk.i64_in _ (by omega)
theorem w_w64_u16 (a : UInt16) : RowKit.wrap64 (n16 a) = n16 a := by
  have h1 := n16_pos a
  have h2 := n16_lt a
  exact IntWalk.wrap64_in _ (by omega)
theorem w_i64_u32 (a : UInt32) : IntKind.i64.wrap (n32 a) = n32 a := by
  have h1 := n32_pos a
  have h2 := n32_lt a
  exact IntWalk.i64_in _ (by omega)
theorem w_w64_u32 (a : UInt32) : RowKit.wrap64 (n32 a) = n32 a := by
  have h1 := n32_pos a
  have h2 := n32_lt a
  exact IntWalk.wrap64_in _ (by omega)
theorem n8_fold (b : UInt8) : (b.toNat : Int) = n8 b := rfl
attribute [go_sem] w_wrap_u8 w_and_u8 w_or_u8 w_xor_u8 w_andNot_u8 w_ofNat_u8 w_self_u8 w_lit_u8 w_zero_u8 w_one_u8 w_sub_u8 w_div_u8 w_divlit_u8 w_mod_u8 w_modlit_u8 w_ediv_u8 w_emod_u8 w_of_u16_u8 w_of_u32_u8 w_of_u64_u8 n8_pos n8_beq n8_bne n8_inj n8_zero n8_one w_i64_u8 w_w64_u8 w_wrap_u16 w_and_u16 w_or_u16 w_xor_u16 w_andNot_u16 w_ofNat_u16 w_self_u16 w_lit_u16 w_zero_u16 w_one_u16 w_sub_u16 w_div_u16 w_divlit_u16 w_mod_u16 w_modlit_u16 w_ediv_u16 w_emod_u16 w_of_u8_u16 w_of_u32_u16 w_of_u64_u16 n16_pos n16_beq n16_bne n16_inj n16_zero n16_one w_i64_u16 w_w64_u16 w_wrap_u32 w_and_u32 w_or_u32 w_xor_u32 w_andNot_u32 w_ofNat_u32 w_self_u32 w_lit_u32 w_zero_u32 w_one_u32 w_sub_u32 w_div_u32 w_divlit_u32 w_mod_u32 w_modlit_u32 w_ediv_u32 w_emod_u32 w_of_u8_u32 w_of_u16_u32 w_of_u64_u32 n32_pos n32_beq n32_bne n32_inj n32_zero n32_one w_i64_u32 w_w64_u32 w_wrap_u64 w_and_u64 w_or_u64 w_xor_u64 w_andNot_u64 w_ofNat_u64 w_self_u64 w_lit_u64 w_zero_u64 w_one_u64 w_sub_u64 w_div_u64 w_divlit_u64 w_mod_u64 w_modlit_u64 w_ediv_u64 w_emod_u64 w_of_u8_u64 w_of_u16_u64 w_of_u32_u64 n64_pos n64_beq n64_bne n64_inj n64_zero n64_one n8_fold
end W
end Go.Proofs.Ytpkbdodclkgjpaa

