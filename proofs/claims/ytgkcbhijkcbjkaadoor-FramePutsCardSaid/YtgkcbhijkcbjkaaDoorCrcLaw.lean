/- The plain laws over sums of 32 bits. No program. No condition. -/
import Derived.Test.YtgkcbhijkcbjkaaDoorCrcSpec
set_option linter.unusedVariables false
namespace Go.Proofs.YtgkcbhijkcbjkaaDoor
namespace Crc
/-! ### turned twice; sealed and opened -/
theorem turned_length (b : List UInt8) (a : Int) (m : UInt32) : (turned b a m).length = b.length := by simp [turned, turnTo]
theorem turned_twice (b : List UInt8) (a : Int) (m : UInt32) : turned (turned b a m) a m = b := by
  apply List.ext_getElem (by simp [turned_length])
  intro p h1 h2
  simp only [turned, turnTo, List.getElem_mapIdx]
  split
  · rw [UInt8.xor_assoc, UInt8.xor_self, UInt8.xor_zero]
  · rfl
theorem sealed_length (b : List UInt8) : (sealed b).length = b.length + 4 := by simp [sealed, bytes]
theorem opened_sealed (b : List UInt8) : opened (sealed b) = (b, 0) := by
  have hl := sealed_length b
  have ht : (sealed b).take ((sealed b).length - 4) = b := by
    rw [hl, Nat.add_sub_cancel, sealed, List.take_left]
  unfold opened
  rw [if_neg (by omega), ht, if_pos rfl]

/-! ### the step is linear, and loses nothing -/
theorem bit_xor (a b : UInt32) : bit (a ^^^ b) = bit a ^^^ bit b := by
  apply UInt32.toBitVec_inj.1
  rw [bit_toBitVec, UInt32.toBitVec_xor, bitV_xor, UInt32.toBitVec_xor, bit_toBitVec, bit_toBitVec]
theorem bits_xor (k : Nat) (a b : UInt32) : bits k (a ^^^ b) = bits k a ^^^ bits k b := by
  induction k with
  | zero => rfl
  | succ k ih => simp only [bits, ih, bit_xor]
theorem bit_zero : bit 0 = 0 := by decide
theorem bits_zero (k : Nat) : bits k 0 = 0 := by
  induction k with
  | zero => rfl
  | succ k ih => simp only [bits, ih, bit_zero]
/-- A step's outcome is nought for nought alone. -/
theorem bitV_eq_zero {s : BitVec 32} (h : bitV s = 0#32) : s = 0#32 := by
  unfold bitV at h
  have h31 : (s >>> 1).getLsbD 31 = false := by
    rw [BitVec.getLsbD_ushiftRight]
    exact BitVec.getLsbD_of_ge s _ (by omega)
  cases h0 : s.getLsbD 0 with
  | true =>
    rw [h0] at h
    have := congrArg (fun v => BitVec.getLsbD v 31) h
    simp only [BitVec.getLsbD_xor, h31, if_true] at this
    exact absurd this (by decide)
  | false =>
    rw [h0] at h
    simp only [Bool.false_eq_true, if_false, BitVec.xor_zero] at h
    apply BitVec.eq_of_getLsbD_eq
    intro i hi
    rcases Nat.eq_zero_or_pos i with rfl | hp
    · simpa using h0
    · have := congrArg (fun v => BitVec.getLsbD v (i - 1)) h
      simp only [BitVec.getLsbD_ushiftRight, BitVec.getLsbD_zero] at this
      rw [show 1 + (i - 1) = i from by omega] at this
      simpa using this
theorem bit_eq_zero {s : UInt32} (h : bit s = 0) : s = 0 := by
  apply UInt32.toBitVec_inj.1
  apply bitV_eq_zero
  rw [← bit_toBitVec, h]
  rfl
theorem bits_eq_zero {k : Nat} {s : UInt32} (h : bits k s = 0) : s = 0 := by
  induction k with
  | zero => exact h
  | succ k ih => exact ih (bit_eq_zero h)

theorem xor_eq_zero {a b : UInt32} (h : a ^^^ b = 0) : a = b := by
  have := congrArg (fun x => x ^^^ b) h
  simpa [UInt32.xor_assoc] using this
theorem more_xor : ∀ (x y : List UInt8) (s t : UInt32), x.length = y.length → more (s ^^^ t) (List.zipWith (· ^^^ ·) x y) = more s x ^^^ more t y
  | [], [], s, t, _ => rfl
  | a :: x, b :: y, s, t, h => by
    have ih := more_xor x y (bits 8 (s ^^^ a.toUInt32)) (bits 8 (t ^^^ b.toUInt32)) (by simpa using h)
    show more (bits 8 (s ^^^ t ^^^ (a ^^^ b).toUInt32)) _ = more (bits 8 (s ^^^ a.toUInt32)) x ^^^ more (bits 8 (t ^^^ b.toUInt32)) y
    rw [← ih, ← bits_xor]
    congr 2
    rw [UInt8.toUInt32_xor]
    ac_rfl
theorem more_zeros (n : Nat) : more 0 (List.replicate n 0) = 0 := by
  induction n with
  | zero => rfl
  | succ n ih =>
    show more (bits 8 (0 ^^^ (0 : UInt8).toUInt32)) (List.replicate n 0) = 0
    rw [show (0 : UInt32) ^^^ (0 : UInt8).toUInt32 = 0 from rfl, bits_zero, ih]
/-- Noughts behind a state that is not nought leave one that is not. -/
theorem more_zeros_eq (n : Nat) {s : UInt32} (h : more s (List.replicate n 0) = 0) : s = 0 := by
  induction n generalizing s with
  | zero => exact h
  | succ n ih =>
    have h2 : bits 8 (s ^^^ (0 : UInt8).toUInt32) = 0 := ih h
    have h3 := bits_eq_zero h2
    simpa using h3

/-! ### bytes behind a state -/
/-- One byte up. -/
def up (x : UInt32) : UInt32 := x <<< 8
theorem up_toNat {x : UInt32} (h : x.toNat < 16777216) : (up x).toNat = x.toNat * 256 := by
  unfold up
  rw [UInt32.toNat_shiftLeft, Nat.shiftLeft_eq]
  show x.toNat * 256 % 4294967296 = _
  omega
theorem bitsV_low {x : BitVec 32} : ∀ k, (∀ j, j < k → x.getLsbD j = false) → bitsV k x = x >>> k
  | 0, _ => by simp [bitsV]
  | k + 1, h => by
    have ih := bitsV_low k fun j hj => h j (by omega)
    show bitV (bitsV k x) = _
    rw [ih, bitV_even (by rw [BitVec.getLsbD_ushiftRight]; exact h k (by omega)), ← BitVec.shiftRight_add]
theorem bits_up {x : UInt32} (h : x.toNat < 16777216) : bits 8 (up x) = x := by
  apply UInt32.toBitVec_inj.1
  rw [bits_toBitVec]
  have e : (up x).toBitVec = x.toBitVec <<< 8 := by
    apply BitVec.eq_of_toNat_eq
    rw [BitVec.toNat_shiftLeft, Nat.shiftLeft_eq]
    have := up_toNat h
    show (up x).toNat = x.toNat * 2 ^ 8 % 2 ^ 32
    omega
  rw [e, bitsV_low 8 (fun j hj => by rw [BitVec.getLsbD_shiftLeft]; simp [hj])]
  apply BitVec.eq_of_toNat_eq
  rw [BitVec.toNat_ushiftRight, BitVec.toNat_shiftLeft, Nat.shiftLeft_eq, Nat.shiftRight_eq_div_pow]
  show x.toNat * 2 ^ 8 % 2 ^ 32 / 2 ^ 8 = x.toNat
  omega
theorem byte_small (b : UInt8) : b.toUInt32.toNat < 256 := by
  have := b.toNat_lt
  simpa using this
theorem low_xor_up (d : UInt32) : d ^^^ (d.toUInt8).toUInt32 = up (d / 256) := by
  have e1 : (d / 256).toBitVec = d.toBitVec >>> 8 := by
    apply BitVec.eq_of_toNat_eq
    simp [Nat.shiftRight_eq_div_pow]
  have hd : (d / 256).toNat < 16777216 := by
    have := d.toNat_lt
    simp
    omega
  have e2 : (up (d / 256)).toBitVec = d.toBitVec >>> 8 <<< 8 := by
    rw [← e1]
    apply BitVec.eq_of_toNat_eq
    rw [BitVec.toNat_shiftLeft, Nat.shiftLeft_eq]
    have := up_toNat hd
    show (up (d / 256)).toNat = (d / 256).toNat * 2 ^ 8 % 2 ^ 32
    omega
  apply UInt32.toBitVec_inj.1
  rw [e2, UInt32.toBitVec_xor]
  have e3 : (d.toUInt8.toUInt32).toBitVec = (d.toBitVec.setWidth 8).setWidth 32 := rfl
  rw [e3]
  apply BitVec.eq_of_getLsbD_eq
  intro i hi
  rw [BitVec.getLsbD_xor, BitVec.getLsbD_setWidth, BitVec.getLsbD_setWidth, BitVec.getLsbD_shiftLeft, BitVec.getLsbD_ushiftRight]
  by_cases h : i < 8
  · simp [h, hi]
  · rw [show 8 + (i - 8) = i from by omega]
    simp [h, hi]
theorem step_low (d : UInt32) : bits 8 (d ^^^ (d.toUInt8).toUInt32) = d / 256 := by
  rw [low_xor_up, bits_up]
  have := d.toNat_lt
  simp
  omega
theorem more_own (d : UInt32) : more d (bytes d) = 0 := by
  have h1 : (d / 256).toUInt8 = byt d 1 := rfl
  have h2 : (d / 256 / 256).toUInt8 = byt d 2 := by
    apply UInt8.toNat_inj.1
    simp [byt]
    omega
  have h3 : (d / 256 / 256 / 256).toUInt8 = byt d 3 := by
    apply UInt8.toNat_inj.1
    simp [byt]
    omega
  show bits 8 (bits 8 (bits 8 (bits 8 (d ^^^ (d.toUInt8).toUInt32) ^^^ (byt d 1).toUInt32) ^^^ (byt d 2).toUInt32) ^^^ (byt d 3).toUInt32) = 0
  rw [step_low, ← h1, step_low, ← h2, step_low, ← h3, step_low]
  apply UInt32.toNat_inj.1
  have := d.toNat_lt
  simp
  omega
theorem byt_xor (a b : UInt32) : ∀ k, byt (a ^^^ b) k = byt a k ^^^ byt b k := by
  have key : ∀ m, ((a ^^^ b).toNat / 2 ^ m) % 256 = ((a.toNat / 2 ^ m) % 256) ^^^ ((b.toNat / 2 ^ m) % 256) := fun m => by
    have h := Nat.shiftRight_xor_distrib (a := a.toNat) (b := b.toNat) (i := m)
    rw [Nat.shiftRight_eq_div_pow, Nat.shiftRight_eq_div_pow, Nat.shiftRight_eq_div_pow] at h
    rw [UInt32.toNat_xor, h]
    exact Nat.xor_mod_two_pow (n := 8)
  intro k
  apply UInt8.toNat_inj.1
  match k with
  | 0 => simp [byt]
  | 1 => simpa [byt] using key 8
  | 2 => simpa [byt] using key 16
  | k + 3 => simpa [byt] using key 24
theorem bytes_xor (a b : UInt32) : bytes (a ^^^ b) = List.zipWith (· ^^^ ·) (bytes a) (bytes b) := by
  simp [bytes, byt_xor]
theorem bytes_length (n : UInt32) : (bytes n).length = 4 := rfl
theorem more_key (c r t : UInt32) : more r (bytes (c ^^^ r)) = more t (bytes (c ^^^ t)) := by
  apply xor_eq_zero
  rw [← more_xor (bytes (c ^^^ r)) (bytes (c ^^^ t)) r t (by rw [bytes_length, bytes_length]), ← bytes_xor]
  have e : (c ^^^ r) ^^^ (c ^^^ t) = r ^^^ t := by
    rw [show (c ^^^ r) ^^^ (c ^^^ t) = (c ^^^ c) ^^^ (r ^^^ t) from by ac_rfl, UInt32.xor_self, UInt32.zero_xor]
  rw [e, more_own]
/-- Whatever was sealed ends at one state. -/
theorem more_sealed (b : List UInt8) : more 4294967295 (sealed b) = more 4294967295 (sealed []) := by
  unfold sealed
  rw [more_append, more_append]
  exact more_key _ _ _

theorem toUInt8_up (x : UInt32) : (up x).toUInt8 = 0 := by
  apply UInt8.toNat_inj.1
  unfold up
  simp [Nat.shiftLeft_eq]
theorem byte_back (b : UInt8) : b.toUInt32.toUInt8 = b := by simp
theorem up_xor (a b : UInt32) : up (a ^^^ b) = up a ^^^ up b := by
  unfold up
  apply UInt32.toBitVec_inj.1
  simp [BitVec.shiftLeft_xor_distrib]
theorem low_zero {a : UInt8} {x : UInt32} (h : a.toUInt32 ^^^ up x = 0) : a = 0 := by
  have := congrArg UInt32.toUInt8 h
  rw [UInt32.toUInt8_xor, byte_back, toUInt8_up] at this
  simpa using this
/-- Four bytes behind nought end at nought only if they are noughts. -/
theorem four_zero {a b c d : UInt8} (h : more 0 [a, b, c, d] = 0) : a = 0 ∧ b = 0 ∧ c = 0 ∧ d = 0 := by
  have hd0 := byte_small d
  have hc0 := byte_small c
  have hb0 := byte_small b
  have ud : (up d.toUInt32).toNat = d.toUInt32.toNat * 256 := up_toNat (by omega)
  have uud : (up (up d.toUInt32)).toNat = d.toUInt32.toNat * 65536 := by rw [up_toNat (by omega)]; omega
  have uc : (up c.toUInt32).toNat = c.toUInt32.toNat * 256 := up_toNat (by omega)
  have h1 : bits 8 (bits 8 (bits 8 (bits 8 (0 ^^^ a.toUInt32) ^^^ b.toUInt32) ^^^ c.toUInt32) ^^^ d.toUInt32) = 0 := h
  have e1 := bits_eq_zero h1
  have e2 : bits 8 (bits 8 (bits 8 (0 ^^^ a.toUInt32) ^^^ b.toUInt32) ^^^ c.toUInt32 ^^^ up d.toUInt32) = 0 := by
    rw [bits_xor, bits_up (by omega)]; exact e1
  have e3 := bits_eq_zero e2
  have e4 : bits 8 (bits 8 (0 ^^^ a.toUInt32) ^^^ b.toUInt32 ^^^ (up c.toUInt32 ^^^ up (up d.toUInt32))) = 0 := by
    rw [bits_xor _ _ (up c.toUInt32 ^^^ _), bits_xor _ (up c.toUInt32), bits_up (by omega), bits_up (by omega), ← UInt32.xor_assoc]; exact e3
  have e5 := bits_eq_zero e4
  have e6 : bits 8 (0 ^^^ a.toUInt32 ^^^ (up b.toUInt32 ^^^ (up (up c.toUInt32) ^^^ up (up (up d.toUInt32))))) = 0 := by
    rw [bits_xor _ _ (up b.toUInt32 ^^^ _), bits_xor _ (up b.toUInt32), bits_xor _ (up (up c.toUInt32)), bits_up (by omega), bits_up (by omega), bits_up (by omega), ← UInt32.xor_assoc]; exact e5
  have e7 := bits_eq_zero e6
  rw [UInt32.zero_xor, ← up_xor, ← up_xor] at e7
  have ha := low_zero e7
  subst ha
  have e8 : up (b.toUInt32 ^^^ (up c.toUInt32 ^^^ up (up d.toUInt32))) = 0 := by simpa using e7
  have e9 : b.toUInt32 ^^^ up (c.toUInt32 ^^^ up d.toUInt32) = 0 := by
    have := congrArg (bits 8) e8
    rw [up_xor, up_xor, bits_xor, bits_xor, bits_up (by omega), bits_up (by omega), bits_up (by omega), bits_zero] at this
    rw [up_xor]; exact this
  have hb := low_zero e9
  subst hb
  have e10 : c.toUInt32 ^^^ up d.toUInt32 = 0 := by
    have e : up (c.toUInt32 ^^^ up d.toUInt32) = 0 := by simpa using e9
    have := congrArg (bits 8) e
    rw [up_xor, bits_xor, bits_up (by omega), bits_up (by omega), bits_zero] at this
    exact this
  have hc := low_zero e10
  subst hc
  refine ⟨rfl, rfl, rfl, ?_⟩
  have e11 : up d.toUInt32 = 0 := by simpa using e10
  have := congrArg (bits 8) e11
  rw [bits_up (by omega), bits_zero] at this
  have h3 := congrArg UInt32.toUInt8 this
  simpa using h3
theorem short_zero {w : List UInt8} (hw : w.length ≤ 4) (h : more 0 w = 0) : ∀ x ∈ w, x = 0 := by
  have h2 : more 0 (w ++ List.replicate (4 - w.length) 0) = 0 := by rw [more_append, h, more_zeros]
  have hl : (w ++ List.replicate (4 - w.length) 0).length = 4 := by simp; omega
  intro x hx
  have hx2 : x ∈ w ++ List.replicate (4 - w.length) 0 := List.mem_append_left _ hx
  generalize w ++ List.replicate (4 - w.length) 0 = v at *
  match v, hl with
  | [a, b, c, d], _ =>
    obtain ⟨ha, hb, hc, hd⟩ := four_zero h2
    simp at hx2
    rcases hx2 with rfl | rfl | rfl | rfl <;> assumption
/-- Noughts but for four places in a row: if it ends at nought, all are noughts. -/
theorem window_zero {e : List UInt8} {a : Nat} (h0 : ∀ p (h : p < e.length), ¬ (a ≤ p ∧ p < a + 4) → e[p] = 0) (h : more 0 e = 0) : ∀ x ∈ e, x = 0 := by
  have e1 : e = e.take a ++ ((e.drop a).take 4 ++ (e.drop a).drop 4) := by rw [List.take_append_drop, List.take_append_drop]
  have z1 : e.take a = List.replicate (e.take a).length 0 := by
    apply List.eq_replicate_of_mem
    intro x hx
    obtain ⟨p, hp, rfl⟩ := List.getElem_of_mem hx
    rw [List.getElem_take]
    rw [List.length_take] at hp
    exact h0 p (by omega) (by omega)
  have z2 : (e.drop a).drop 4 = List.replicate ((e.drop a).drop 4).length 0 := by
    apply List.eq_replicate_of_mem
    intro x hx
    obtain ⟨p, hp, rfl⟩ := List.getElem_of_mem hx
    simp only [List.getElem_drop]
    simp only [List.length_drop] at hp
    exact h0 _ (by omega) (by omega)
  have h2 : more (more (more 0 (e.take a)) ((e.drop a).take 4)) ((e.drop a).drop 4) = 0 := by rw [← more_append, ← more_append, ← e1]; exact h
  rw [z1, more_zeros, z2] at h2
  have h3 := short_zero (by simp; omega) (more_zeros_eq _ h2)
  intro x hx
  rw [e1] at hx
  simp only [List.mem_append] at hx
  rcases hx with hx | hx | hx
  · rw [z1] at hx; exact (List.mem_replicate.1 hx).2
  · exact h3 x hx
  · rw [z2] at hx; exact (List.mem_replicate.1 hx).2
/-- WHAT WAS SEALED AND TURNED ONCE IS NOT OPENED, if a byte changed. -/
theorem finds (b : List UInt8) (a : Int) (m : UInt32) (hne : turned (sealed b) a m ≠ sealed b) : opened (turned (sealed b) a m) = ([], 12) := by
  have hl : (turned (sealed b) a m).length = b.length + 4 := by rw [turned_length, sealed_length]
  unfold opened
  rw [if_neg (by omega)]
  rw [if_neg]
  intro hs
  apply hne
  have hlen : (turned (sealed b) a m).length = (sealed b).length := turned_length _ _ _
  have hz : more 0 (List.zipWith (· ^^^ ·) (turned (sealed b) a m) (sealed b)) = 0 := by
    have := more_xor (turned (sealed b) a m) (sealed b) 4294967295 4294967295 hlen
    rw [UInt32.xor_self] at this
    rw [this, more_sealed b, ← hs, more_sealed, UInt32.xor_self]
  have hget : ∀ p (h : p < (List.zipWith (· ^^^ ·) (turned (sealed b) a m) (sealed b)).length), ¬ (a ≤ p ∧ (p : Int) < a + 4) → (List.zipWith (· ^^^ ·) (turned (sealed b) a m) (sealed b))[p] = 0 := by
    intro p h hp
    simp only [List.getElem_zipWith, turned, turnTo, List.getElem_mapIdx]
    rw [if_neg (by omega)]
    exact UInt8.xor_self
  have hall : ∀ x ∈ List.zipWith (· ^^^ ·) (turned (sealed b) a m) (sealed b), x = 0 := by
    by_cases ha : 0 ≤ a
    · refine window_zero (a := a.toNat) (fun p h hp => hget p h (by omega)) hz
    · -- the window begins ahead of the bytes: what is left of it is shorter
      refine window_zero (a := 0) (fun p h hp => hget p h (by omega)) hz
  apply List.ext_getElem hlen
  intro p h1 h2
  have hp : p < (List.zipWith (· ^^^ ·) (turned (sealed b) a m) (sealed b)).length := by simp; omega
  have := hall _ (List.getElem_mem hp)
  rw [List.getElem_zipWith] at this
  have h3 := congrArg (fun x => x ^^^ (sealed b)[p]) this
  simpa [UInt8.xor_assoc] using h3
end Crc
end Go.Proofs.YtgkcbhijkcbjkaaDoor
