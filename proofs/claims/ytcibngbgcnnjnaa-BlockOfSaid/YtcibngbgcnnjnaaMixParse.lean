/- The walks of reading strong sums' texts, the reference's too, and the plain law: both read alike, and what was written is read as it was. No condition but sizes. -/
import Derived.Test.YtcibngbgcnnjnaaMixTextB
set_option linter.unusedVariables false
set_option linter.unusedSimpArgs false
namespace Go.Proofs.Ytcibngbgcnnjnaa
open Go Go.RowKit W
namespace Mix
def pstep (s : Option St) (c : UInt8) : Option St := s.bind fun s => (val c).map fun v => (s.1 * 16 ||| s.2 / 1152921504606846976, s.2 * 16 ||| v)
def pnum (l : List UInt8) : Option St := l.foldl pstep (some (0, 0))
theorem pfoldl_none (l : List UInt8) : l.foldl pstep none = none := by
  induction l with
  | nil => rfl
  | cons c l ih => exact ih
theorem pnum_snoc (l : List UInt8) (k : Nat) (h : k < l.length) : pnum (l.take (k + 1)) = pstep (pnum (l.take k)) l[k] := by
  unfold pnum
  rw [List.take_succ_eq_append_getElem h, List.foldl_append]
  rfl
theorem pnum_stops (l : List UInt8) (k : Nat) (h : pnum (l.take k) = none) : pnum l = none := by
  have : pnum l = (l.drop k).foldl pstep (pnum (l.take k)) := by
    unfold pnum
    rw [← List.foldl_append, List.take_append_drop]
  rw [this, h, pfoldl_none]
/-- What a text is read as; the error's number. -/
def parsed (l : List UInt8) : Option St := if l.length = 32 then pnum l else none
def gotV : Option St → Value
  | some s => .tuple #[sumV s, .int .i64 0]
  | none => .tuple #[sumV (0, 0), .int .i64 3]

/-! ### the plain law -/
def valN (c : UInt8) : Nat := match val c with | some v => v.toNat | none => 0
def good (c : UInt8) : Bool := (val c).isSome
theorem valN_lt (c : UInt8) : valN c < 16 := by
  unfold valN val
  have hc := c.toNat_lt
  split
  · rename_i v hv
    split at hv
    · cases hv
      have e : ((c.toUInt64 - 48) % 256).toNat = c.toNat - 48 := by
        rw [UInt64.toNat_mod, UInt64.toNat_sub]
        have : c.toUInt64.toNat = c.toNat := by simp
        rw [this]
        show (2 ^ 64 - 48 + c.toNat) % 2 ^ 64 % 256 = _
        omega
      omega
    · split at hv
      · cases hv
        have e : ((c.toUInt64 - 97) % 256 + 10).toNat = c.toNat - 97 + 10 := by
          rw [UInt64.toNat_add, UInt64.toNat_mod, UInt64.toNat_sub]
          have : c.toUInt64.toNat = c.toNat := by simp
          rw [this]
          show ((2 ^ 64 - 97 + c.toNat) % 2 ^ 64 % 256 + 10) % 2 ^ 64 = _
          omega
        omega
      · cases hv
  · omega
theorem good_val {c : UInt8} (h : good c = true) : val c = some (UInt64.ofNat (valN c)) := by
  unfold good at h
  obtain ⟨v, hv⟩ := Option.isSome_iff_exists.1 h
  unfold valN
  rw [hv]
  simp
theorem bad_val {c : UInt8} (h : good c = false) : val c = none := by
  unfold good at h
  cases hv : val c with
  | none => rfl
  | some v => rw [hv] at h; cases h
def NV (n : Nat) (l : List UInt8) : Nat := l.foldl (fun n c => n * 16 + valN c) n
theorem num_fold (l : List UInt8) : ∀ n, l.foldl numStep (some (UInt64.ofNat n)) = if l.all good then some (UInt64.ofNat (NV n l)) else none := by
  induction l with
  | nil => intro n; rfl
  | cons c l ih =>
    intro n
    rw [List.foldl_cons, List.all_cons]
    cases hc : good c with
    | false => simp [numStep, bad_val hc, foldl_none]
    | true =>
      have : numStep (some (UInt64.ofNat n)) c = some (UInt64.ofNat (n * 16 + valN c)) := by
        simp [numStep, good_val hc]
      rw [this, ih]
      simp [NV]
def split (n : Nat) : St := (UInt64.ofNat (n / 18446744073709551616), UInt64.ofNat n)
theorem or_small (a b : Nat) (h : b < 16) : a * 16 % 18446744073709551616 ||| b = a * 16 % 18446744073709551616 + b := by
  have h1 : a * 16 % 18446744073709551616 = 2 ^ 4 * (a % 1152921504606846976) := by omega
  rw [h1]
  exact (Nat.two_pow_add_eq_or_of_lt (i := 4) h _).symm
theorem pnum_fold (l : List UInt8) : ∀ n, l.foldl pstep (some (split n)) = if l.all good then some (split (NV n l)) else none := by
  induction l with
  | nil => intro n; rfl
  | cons c l ih =>
    intro n
    rw [List.foldl_cons, List.all_cons]
    cases hc : good c with
    | false => simp [pstep, bad_val hc, pfoldl_none]
    | true =>
      have hv := valN_lt c
      have : pstep (some (split n)) c = some (split (n * 16 + valN c)) := by
        simp only [pstep, good_val hc, Option.bind_some, Option.map_some, split]
        congr 1
        apply Prod.ext
        · apply UInt64.toNat_inj.1
          show (UInt64.ofNat (n / 18446744073709551616) * 16 ||| UInt64.ofNat n / 1152921504606846976).toNat = (UInt64.ofNat ((n * 16 + valN c) / 18446744073709551616)).toNat
          rw [UInt64.toNat_or, UInt64.toNat_mul, UInt64.toNat_div]
          simp only [UInt64.toNat_ofNat']
          show n / 18446744073709551616 % 18446744073709551616 * 16 % 18446744073709551616 ||| n % 18446744073709551616 / 1152921504606846976 = (n * 16 + valN c) / 18446744073709551616 % 18446744073709551616
          rw [or_small _ _ (by omega)]
          omega
        · apply UInt64.toNat_inj.1
          show (UInt64.ofNat n * 16 ||| UInt64.ofNat (valN c)).toNat = (UInt64.ofNat (n * 16 + valN c)).toNat
          rw [UInt64.toNat_or, UInt64.toNat_mul]
          simp only [UInt64.toNat_ofNat']
          show n % 18446744073709551616 * 16 % 18446744073709551616 ||| valN c % 18446744073709551616 = (n * 16 + valN c) % 18446744073709551616
          rw [Nat.mod_eq_of_lt (show valN c < 18446744073709551616 by omega), or_small _ _ hv]
          omega
      rw [this, ih]
      simp [NV]
theorem NV_acc (l : List UInt8) : ∀ n, NV n l = n * 16 ^ l.length + NV 0 l := by
  induction l with
  | nil => intro n; simp [NV]
  | cons c l ih =>
    intro n
    have h1 : NV n (c :: l) = NV (n * 16 + valN c) l := rfl
    have h2 : NV 0 (c :: l) = NV (valN c) l := by simp [NV]
    rw [h1, h2, ih (n * 16 + valN c), ih (valN c), List.length_cons, Nat.pow_succ, Nat.add_mul]
    rw [show n * (16 ^ l.length * 16) = n * 16 * 16 ^ l.length by rw [Nat.mul_assoc, Nat.mul_comm 16]]
    omega
theorem NV_lt (l : List UInt8) : NV 0 l < 16 ^ l.length := by
  induction l with
  | nil => simp [NV]
  | cons c l ih =>
    have h2 : NV 0 (c :: l) = NV (valN c) l := by simp [NV]
    rw [h2, NV_acc, List.length_cons, Nat.pow_succ]
    have hv := valN_lt c
    have : valN c * 16 ^ l.length ≤ 15 * 16 ^ l.length := Nat.mul_le_mul_right _ (by omega)
    omega
/-- The reference reads the two halves. -/
def refParsed (l : List UInt8) : Option St := if l.length = 32 then match num (l.take 16), num (l.drop 16) with | some a, some b => some (a, b) | _, _ => none else none
theorem parsed_ref (l : List UInt8) : parsed l = refParsed l := by
  unfold parsed refParsed
  split
  · rename_i hl
    have e1 : pnum l = if l.all good then some (split (NV 0 l)) else none := pnum_fold l 0
    have e2 : num (l.take 16) = if (l.take 16).all good then some (UInt64.ofNat (NV 0 (l.take 16))) else none := num_fold _ 0
    have e3 : num (l.drop 16) = if (l.drop 16).all good then some (UInt64.ofNat (NV 0 (l.drop 16))) else none := num_fold _ 0
    have hall : l.all good = ((l.take 16).all good && (l.drop 16).all good) := by rw [← List.all_append, List.take_append_drop]
    rw [e1, e2, e3, hall]
    cases h1 : (l.take 16).all good <;> cases h2 : (l.drop 16).all good <;> simp
    have hN : NV 0 l = NV 0 (l.take 16) * 16 ^ 16 + NV 0 (l.drop 16) := by
      have h3 : NV 0 l = NV (NV 0 (l.take 16)) (l.drop 16) := by
        unfold NV
        rw [← List.foldl_append, List.take_append_drop]
      rw [h3, NV_acc, show (l.drop 16).length = 16 by rw [List.length_drop]; omega]
    have hlt := NV_lt (l.drop 16)
    rw [show (l.drop 16).length = 16 by rw [List.length_drop]; omega] at hlt
    have hp : (16 : Nat) ^ 16 = 18446744073709551616 := by decide
    rw [hp] at hN hlt
    unfold split
    rw [hN]
    apply Prod.ext
    · show UInt64.ofNat _ = UInt64.ofNat _
      congr 1
      omega
    · apply UInt64.toNat_inj.1
      show (UInt64.ofNat _).toNat = (UInt64.ofNat _).toNat
      simp only [UInt64.toNat_ofNat']
      omega
  · rfl
theorem val_digit : ∀ m, m < 16 → val (digits.getD m 0) = some (UInt64.ofNat m) := by decide
theorem hexR_all (v : UInt64) (k : Nat) : (hexR v k).all good = true ∧ NV 0 (hexR v k) = v.toNat % 16 ^ k := by
  induction k with
  | zero => simp [hexR, NV, Nat.mod_one]
  | succ k ih =>
    have hd : val (dg (nib v k)) = some (UInt64.ofNat (v.toNat / 16 ^ k % 16)) := by
      unfold dg
      have : (nib v k).toNat % 16 = v.toNat / 16 ^ k % 16 := by
        unfold nib
        rw [UInt64.toNat_ofNat', Nat.pow_mul]
        show v.toNat / 16 ^ k % 18446744073709551616 % 16 = _
        omega
      rw [this]
      exact val_digit _ (Nat.mod_lt _ (by omega))
    have hv : valN (dg (nib v k)) = v.toNat / 16 ^ k % 16 := by
      unfold valN
      rw [hd]
      show (UInt64.ofNat _).toNat = _
      rw [UInt64.toNat_ofNat']
      have : v.toNat / 16 ^ k % 16 < 16 := Nat.mod_lt _ (by omega)
      omega
    constructor
    · rw [hexR, List.all_cons, ih.1]
      unfold good
      rw [hd]
      rfl
    · have h2 : NV 0 (hexR v (k + 1)) = NV (valN (dg (nib v k))) (hexR v k) := by simp [NV, hexR]
      rw [h2, NV_acc, ih.2, hexR_length, hv, Nat.pow_succ, Nat.mod_mul, Nat.mul_comm]
      omega
theorem num_hex (v : UInt64) : num (hexR v 16) = some v := by
  have e : num (hexR v 16) = if (hexR v 16).all good then some (UInt64.ofNat (NV 0 (hexR v 16))) else none := num_fold _ 0
  obtain ⟨h1, h2⟩ := hexR_all v 16
  rw [e, h1, h2]
  have hp : (16 : Nat) ^ 16 = 18446744073709551616 := by decide
  rw [hp, Nat.mod_eq_of_lt v.toNat_lt]
  simp
theorem parsed_text (s : St) : parsed (hexR s.1 16 ++ hexR s.2 16) = some s := by
  rw [parsed_ref]
  unfold refParsed
  rw [if_pos (by simp), List.take_left' (by simp), List.drop_left' (by simp), num_hex, num_hex]
end Mix
end Go.Proofs.Ytcibngbgcnnjnaa

