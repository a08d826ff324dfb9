/- The document's sums of 32 bits, on lists of bytes: plain definitions, and the laws on them. No program. No condition. -/
set_option linter.unusedVariables false
set_option linter.unusedSimpArgs false
namespace Go.Proofs.Ytpkbdodclkgjpaa
namespace Crc

/-- One bit's step. -/
def bit (s : UInt32) : UInt32 := if s % 2 = 1 then s / 2 ^^^ 3988292384 else s / 2
/-- So many bits' steps. -/
def bits : Nat → UInt32 → UInt32
  | 0, s => s
  | k + 1, s => bit (bits k s)
def more (s : UInt32) (l : List UInt8) : UInt32 := l.foldl (fun s b => bits 8 (s ^^^ b.toUInt32)) s
def sum (l : List UInt8) : UInt32 := 4294967295 ^^^ more 4294967295 l
def byt (n : UInt32) : Nat → UInt8
  | 0 => n.toUInt8
  | 1 => (n / 256).toUInt8
  | 2 => (n / 65536).toUInt8
  | _ => (n / 16777216).toUInt8
def bytes (n : UInt32) : List UInt8 := [byt n 0, byt n 1, byt n 2, byt n 3]
def sealed (b : List UInt8) : List UInt8 := b ++ bytes (sum b)
def opened (b : List UInt8) : List UInt8 × Nat :=
  if b.length < 4 then ([], 4) else if sealed (b.take (b.length - 4)) = b then (b.take (b.length - 4), 0) else ([], 12)
/-- The first k bytes of the mask are laid. -/
def turnTo (k : Nat) (b : List UInt8) (at_ : Int) (mask : UInt32) : List UInt8 :=
  b.mapIdx fun p c => if at_ ≤ p ∧ (p : Int) < at_ + k then c ^^^ (bytes mask).getD ((p : Int) - at_).toNat 0 else c
def turned (b : List UInt8) (at_ : Int) (mask : UInt32) : List UInt8 := turnTo 4 b at_ mask

theorem more_nil (s : UInt32) : more s [] = s := rfl
theorem more_append (s : UInt32) (a b : List UInt8) : more s (a ++ b) = more (more s a) b := by simp [more, List.foldl_append]
theorem more_snoc (s : UInt32) (l : List UInt8) (k : Nat) (h : k < l.length) : more s (l.take (k + 1)) = bits 8 (more s (l.take k) ^^^ l[k].toUInt32) := by
  rw [List.take_succ_eq_append_getElem h, more_append]
  rfl

/-! ### the table of half bytes -/
def table : List UInt32 := [0, 498536548, 997073096, 651767980, 1994146192, 1802195444, 1303535960, 1342533948, 3988292384, 4027552580, 3604390888, 3412177804, 2607071920, 2262029012, 2685067896, 3183342108]
def tab (i : UInt32) : UInt32 := table.getD i.toNat 0
theorem and15_lt (x : UInt32) : (x &&& 15).toNat < 16 := by
  rw [UInt32.toNat_and]
  exact Nat.lt_of_le_of_lt Nat.and_le_right (by decide)

/-- The step on 32 bits as bit vectors. -/
def bitV (s : BitVec 32) : BitVec 32 := (s >>> 1) ^^^ (if s.getLsbD 0 then 3988292384#32 else 0#32)
theorem bit_toBitVec (s : UInt32) : (bit s).toBitVec = bitV s.toBitVec := by
  have hd : (s / 2).toBitVec = s.toBitVec >>> 1 := by
    apply BitVec.eq_of_toNat_eq
    simp [Nat.shiftRight_eq_div_pow]
  have hm : (s % 2 = 1) ↔ s.toBitVec.getLsbD 0 = true := by
    rw [← UInt32.toNat_inj, UInt32.toNat_mod]
    simp [BitVec.getLsbD, Nat.testBit, Nat.and_comm 1, Nat.and_one_is_mod]
  unfold bit bitV
  by_cases h : s % 2 = 1
  · rw [if_pos h, if_pos (hm.1 h), UInt32.toBitVec_xor, hd]
    rfl
  · rw [if_neg h, if_neg (fun e => h (hm.2 e)), hd]
    simp
theorem bitV_xor (a b : BitVec 32) : bitV (a ^^^ b) = bitV a ^^^ bitV b := by
  unfold bitV
  rw [BitVec.ushiftRight_xor_distrib, BitVec.getLsbD_xor]
  generalize a >>> 1 = x
  generalize b >>> 1 = y
  generalize 3988292384#32 = p
  cases a.getLsbD 0 <;> cases b.getLsbD 0 <;> simp
  · rw [BitVec.xor_assoc]
  · rw [BitVec.xor_assoc, BitVec.xor_comm y p, ← BitVec.xor_assoc]
  · rw [show x ^^^ p ^^^ (y ^^^ p) = x ^^^ (p ^^^ (p ^^^ y)) from by rw [BitVec.xor_comm y p, BitVec.xor_assoc], ← BitVec.xor_assoc p p y]
    simp
def bitsV : Nat → BitVec 32 → BitVec 32
  | 0, s => s
  | k + 1, s => bitV (bitsV k s)
theorem bits_toBitVec (k : Nat) (s : UInt32) : (bits k s).toBitVec = bitsV k s.toBitVec := by
  induction k with
  | zero => rfl
  | succ k ih => simp only [bits, bitsV, bit_toBitVec, ih]
theorem bitsV_xor (k : Nat) (a b : BitVec 32) : bitsV k (a ^^^ b) = bitsV k a ^^^ bitsV k b := by
  induction k with
  | zero => rfl
  | succ k ih => simp only [bitsV, ih, bitV_xor]
theorem bitV_even {x : BitVec 32} (h : x.getLsbD 0 = false) : bitV x = x >>> 1 := by
  unfold bitV
  rw [h]
  simp
theorem low_high (s : BitVec 32) : (s >>> 4) <<< 4 ^^^ (s &&& 15#32) = s := by
  have h15 : ∀ i, i < 32 → (15#32).getLsbD i = decide (i < 4) := by decide
  apply BitVec.eq_of_getLsbD_eq
  intro i hi
  rw [BitVec.getLsbD_xor, BitVec.getLsbD_and, h15 i hi, BitVec.getLsbD_shiftLeft, BitVec.getLsbD_ushiftRight]
  by_cases h : i < 4
  · simp [h]
  · rw [show 4 + (i - 4) = i from by omega]
    simp [h, hi]
theorem high_down (s : BitVec 32) : (s >>> 4) <<< 4 >>> 4 = s >>> 4 := by
  apply BitVec.eq_of_getLsbD_eq
  intro i hi
  rw [BitVec.getLsbD_ushiftRight, BitVec.getLsbD_shiftLeft, BitVec.getLsbD_ushiftRight]
  by_cases h : 4 + i < 32
  · simp [h]
  · simp [h]
    exact BitVec.getLsbD_of_ge s (4 + i) (by omega)
theorem bitsV_high (q : BitVec 32) : bitsV 4 (q <<< 4) = q <<< 4 >>> 4 := by
  have e : ∀ k, k < 4 → (q <<< 4 >>> k).getLsbD 0 = false := by
    intro k hk
    rw [BitVec.getLsbD_ushiftRight, BitVec.getLsbD_shiftLeft]
    simp [hk]
  have a0 : bitV (q <<< 4) = q <<< 4 >>> 1 := bitV_even (e 0 (by omega))
  have a1 : bitV (q <<< 4 >>> 1) = q <<< 4 >>> 2 := bitV_even (e 1 (by omega))
  have a2 : bitV (q <<< 4 >>> 2) = q <<< 4 >>> 3 := bitV_even (e 2 (by omega))
  have a3 : bitV (q <<< 4 >>> 3) = q <<< 4 >>> 4 := bitV_even (e 3 (by omega))
  show bitV (bitV (bitV (bitV (q <<< 4)))) = _
  rw [a0, a1, a2, a3]
theorem and15_eq (s : BitVec 32) : ∃ i : Fin 16, s &&& 15#32 = BitVec.ofNat 32 i.val := by
  refine ⟨⟨s.toNat % 16, Nat.mod_lt _ (by decide)⟩, ?_⟩
  apply BitVec.eq_of_toNat_eq
  rw [BitVec.toNat_and, BitVec.toNat_ofNat, BitVec.toNat_ofNat]
  have h := Nat.and_two_pow_sub_one_eq_mod s.toNat 4
  have := s.isLt
  show s.toNat &&& 15 = s.toNat % 16 % 2 ^ 32
  rw [show s.toNat &&& 15 = s.toNat % 16 from h]
  omega
theorem table_bits : ∀ i : Fin 16, bitsV 4 (BitVec.ofNat 32 i.val) = (tab (UInt32.ofNat i.val)).toBitVec := by decide
theorem nibV (s : BitVec 32) : bitsV 4 s = (tab (UInt32.ofBitVec (s &&& 15#32))).toBitVec ^^^ s >>> 4 := by
  obtain ⟨i, hi⟩ := and15_eq s
  have h1 : bitsV 4 s = bitsV 4 ((s >>> 4) <<< 4) ^^^ bitsV 4 (s &&& 15#32) := by rw [← bitsV_xor, low_high]
  rw [h1, bitsV_high, high_down, hi, table_bits, BitVec.xor_comm]
  rfl
/-- Four bits' steps by the table. -/
theorem nib (s : UInt32) : bits 4 s = tab (s &&& 15) ^^^ s / 16 := by
  apply UInt32.toBitVec_inj.1
  rw [bits_toBitVec, nibV, UInt32.toBitVec_xor]
  congr 1
  apply BitVec.eq_of_toNat_eq
  simp [Nat.shiftRight_eq_div_pow]
theorem bits_add (a b : Nat) (s : UInt32) : bits (a + b) s = bits a (bits b s) := by
  induction a with
  | zero => simp [bits]
  | succ a ih => rw [Nat.add_right_comm]; simp only [bits, ih]
theorem div16_xor (a b : UInt32) : (a ^^^ b) / 16 = a / 16 ^^^ b / 16 := by
  apply UInt32.toNat_inj.1
  simp only [UInt32.toNat_div, UInt32.toNat_xor]
  have h := Nat.shiftRight_xor_distrib (a := a.toNat) (b := b.toNat) (i := 4)
  simpa [Nat.shiftRight_eq_div_pow] using h
theorem byte_div (b : UInt8) : b.toUInt32 / 16 / 16 = 0 := by
  apply UInt32.toNat_inj.1
  have := b.toNat_lt
  simp
  omega
/-- The program's round: two half bytes by the table. -/
theorem two_nibs (s : UInt32) (b : UInt8) : tab (((tab ((s ^^^ b.toUInt32) &&& 15) ^^^ s / 16) ^^^ b.toUInt32 / 16) &&& 15) ^^^ (tab ((s ^^^ b.toUInt32) &&& 15) ^^^ s / 16) / 16 = bits 8 (s ^^^ b.toUInt32) := by
  have h1 : tab ((s ^^^ b.toUInt32) &&& 15) ^^^ s / 16 ^^^ b.toUInt32 / 16 = bits 4 (s ^^^ b.toUInt32) := by
    rw [nib, div16_xor, UInt32.xor_assoc]
  have h2 : (tab ((s ^^^ b.toUInt32) &&& 15) ^^^ s / 16) / 16 = bits 4 (s ^^^ b.toUInt32) / 16 := by
    rw [← h1, div16_xor _ (b.toUInt32 / 16), byte_div, UInt32.xor_zero]
  rw [h1, h2, show (8 : Nat) = 4 + 4 from rfl, bits_add, nib (bits 4 _)]
end Crc
end Go.Proofs.Ytpkbdodclkgjpaa

