/- Words of bytes, and what a strong sum's hash has met: plain definitions and laws. No program. No condition. -/
import Derived.Test.YtcibngbgcnnjnaaMixSpec
set_option linter.unusedVariables false
namespace Go.Proofs.Ytcibngbgcnnjnaa
namespace Mix
def WN : List UInt8 → Nat
  | [] => 0
  | c :: l => c.toNat + 256 * WN l
def word (l : List UInt8) : UInt64 := UInt64.ofNat (WN l)
theorem WN_snoc (l : List UInt8) (c : UInt8) : WN (l ++ [c]) = WN l + 256 ^ l.length * c.toNat := by
  induction l with
  | nil => simp [WN]
  | cons d l ih =>
    simp only [List.cons_append, WN, ih, List.length_cons, Nat.pow_succ, Nat.mul_add]
    rw [show 256 ^ l.length * 256 * c.toNat = 256 * (256 ^ l.length * c.toNat) by rw [Nat.mul_comm (256 ^ l.length) 256, Nat.mul_assoc]]
    omega
theorem WN_lt (l : List UInt8) : WN l < 256 ^ l.length := by
  induction l with
  | nil => simp [WN]
  | cons d l ih =>
    have := d.toNat_lt
    simp only [WN, List.length_cons, Nat.pow_succ]
    omega
theorem WN_inj : ∀ (a b : List UInt8), a.length = b.length → WN a = WN b → a = b
  | [], [], _, _ => rfl
  | [], _ :: _, h, _ => by simp at h
  | _ :: _, [], h, _ => by simp at h
  | c :: a, d :: b, hl, h => by
    simp only [WN] at h
    have h1 := c.toNat_lt
    have h2 := d.toNat_lt
    have h3 : c = d := UInt8.toNat_inj.1 (by omega)
    have h4 := WN_inj a b (by simpa using hl) (by omega)
    rw [h3, h4]
theorem pow8 : (256 : Nat) ^ 8 = 18446744073709551616 := by decide
theorem WN_lt64 {l : List UInt8} (h : l.length ≤ 8) : WN l < 18446744073709551616 :=
  Nat.lt_of_lt_of_le (WN_lt l) (by rw [← pow8]; exact Nat.pow_le_pow_right (by omega) h)
theorem word_inj {a b : List UInt8} (ha : a.length ≤ 8) (hl : a.length = b.length) (h : word a = word b) : a = b := by
  apply WN_inj a b hl
  have := congrArg UInt64.toNat h
  unfold word at this
  rw [UInt64.toNat_ofNat', UInt64.toNat_ofNat', Nat.mod_eq_of_lt (WN_lt64 ha), Nat.mod_eq_of_lt (WN_lt64 (by omega))] at this
  exact this
/-- A byte more, laid above. -/
theorem word_or (l : List UInt8) (c : UInt8) (h : l.length < 8) : word l ||| UInt64.ofNat (c.toNat * 256 ^ l.length) = word (l ++ [c]) := by
  apply UInt64.toNat_inj.1
  unfold word
  have h1 := WN_lt l
  have h2 := WN_lt64 (l := l) (by omega)
  have h3 := WN_lt64 (l := l ++ [c]) (by simp; omega)
  rw [WN_snoc] at h3
  rw [UInt64.toNat_or, UInt64.toNat_ofNat', UInt64.toNat_ofNat', UInt64.toNat_ofNat', WN_snoc]
  have h4 : c.toNat * 256 ^ l.length = 256 ^ l.length * c.toNat := Nat.mul_comm _ _
  rw [h4]
  show WN l % 18446744073709551616 ||| (256 ^ l.length * c.toNat) % 18446744073709551616 = (WN l + 256 ^ l.length * c.toNat) % 18446744073709551616
  rw [Nat.mod_eq_of_lt h2, Nat.mod_eq_of_lt (by omega), Nat.mod_eq_of_lt h3]
  have e : 256 ^ l.length = 2 ^ (8 * l.length) := by rw [Nat.pow_mul]
  rw [e] at h1 ⊢
  rw [Nat.or_comm, Nat.add_comm]
  exact (Nat.two_pow_add_eq_or_of_lt h1 _).symm
theorem word_add (l : List UInt8) (c : UInt8) : word l + UInt64.ofNat (256 ^ l.length) * c.toUInt64 = word (l ++ [c]) := by
  apply UInt64.toNat_inj.1
  unfold word
  have e : c.toUInt64.toNat = c.toNat := by simp
  rw [UInt64.toNat_add, UInt64.toNat_mul, UInt64.toNat_ofNat', UInt64.toNat_ofNat', UInt64.toNat_ofNat', WN_snoc, e]
  generalize 256 ^ l.length = p
  show (WN l % 2 ^ 64 + p % 2 ^ 64 * c.toNat % 2 ^ 64) % 2 ^ 64 = (WN l + p * c.toNat) % 2 ^ 64
  have h1 : p % 2 ^ 64 * c.toNat % 2 ^ 64 = p * c.toNat % 2 ^ 64 := Nat.mod_mul_mod _ _ _
  rw [h1, ← Nat.add_mod]
theorem unit_step (k : Nat) : UInt64.ofNat (256 ^ k) * 256 = UInt64.ofNat (256 ^ (k + 1)) := by
  rw [Nat.pow_succ, UInt64.ofNat_mul]
  rfl

/-! ### what was met -/
def feed (s : St) (l : List UInt8) : St := if 8 ≤ l.length then feed (round s (word (l.take 8))) (l.drop 8) else s
termination_by l.length
decreasing_by simp; omega
def rest (l : List UInt8) : List UInt8 := if 8 ≤ l.length then rest (l.drop 8) else l
termination_by l.length
decreasing_by simp; omega
theorem feed_more {s : St} {l : List UInt8} (h : 8 ≤ l.length) : feed s l = feed (round s (word (l.take 8))) (l.drop 8) := by rw [feed, if_pos h]
theorem feed_less {s : St} {l : List UInt8} (h : ¬ 8 ≤ l.length) : feed s l = s := by rw [feed, if_neg h]
theorem rest_more {l : List UInt8} (h : 8 ≤ l.length) : rest l = rest (l.drop 8) := by rw [rest, if_pos h]
theorem rest_less {l : List UInt8} (h : ¬ 8 ≤ l.length) : rest l = l := by rw [rest, if_neg h]
theorem feed_append (b : List UInt8) : ∀ (n : Nat) (s : St) (a : List UInt8), a.length ≤ n → feed s (a ++ b) = feed (feed s a) (rest a ++ b) ∧ rest (a ++ b) = rest (rest a ++ b) := by
  intro n
  induction n with
  | zero =>
    intro s a h
    have ha : ¬ 8 ≤ a.length := by omega
    rw [feed_less ha, rest_less ha]
    exact ⟨rfl, rfl⟩
  | succ n ih =>
    intro s a h
    by_cases ha : 8 ≤ a.length
    · have hab : 8 ≤ (a ++ b).length := by simp; omega
      rw [feed_more hab, feed_more ha, rest_more hab, rest_more ha, List.take_append_of_le_length ha, List.drop_append_of_le_length ha]
      exact ih _ _ (by simp; omega)
    · rw [feed_less ha, rest_less ha]
      exact ⟨rfl, rfl⟩
theorem rest_lt (n : Nat) : ∀ l : List UInt8, l.length ≤ n → (rest l).length < 8 := by
  induction n with
  | zero => intro l h; rw [rest_less (by omega)]; omega
  | succ n ih =>
    intro l h
    by_cases h8 : 8 ≤ l.length
    · rw [rest_more h8]; exact ih _ (by simp; omega)
    · rw [rest_less h8]; omega
def tailed (s : St) (l : List UInt8) : St := if l.length = 0 then s else round s (word l)
def closed (s : St) (n : UInt64) : St := round (round (round (round s n) 18446744073709551615) 0) 0
/-- The sum of bytes. -/
def of (l : List UInt8) : St := closed (tailed (feed start l) (rest l)) (UInt64.ofNat l.length)
/-- The reference goes by eights, the last ones maybe fewer. -/
def eights (s : St) (l : List UInt8) : St := if l.length = 0 then s else eights (round s (word (l.take 8))) (l.drop 8)
termination_by l.length
decreasing_by simp; omega
theorem eights_none {s : St} {l : List UInt8} (h : l.length = 0) : eights s l = s := by rw [eights, if_pos h]
theorem eights_some {s : St} {l : List UInt8} (h : l.length ≠ 0) : eights s l = eights (round s (word (l.take 8))) (l.drop 8) := by rw [eights, if_neg h]
theorem eights_eq (n : Nat) : ∀ (s : St) (l : List UInt8), l.length ≤ n → eights s l = tailed (feed s l) (rest l) := by
  induction n with
  | zero =>
    intro s l h
    rw [eights_none (by omega), feed_less (by omega), rest_less (by omega)]
    unfold tailed
    rw [if_pos (by omega)]
  | succ n ih =>
    intro s l h
    by_cases h0 : l.length = 0
    · rw [eights_none h0, feed_less (by omega), rest_less (by omega)]
      unfold tailed
      rw [if_pos h0]
    · rw [eights_some h0, ih _ _ (by simp; omega)]
      by_cases h8 : 8 ≤ l.length
      · rw [feed_more h8, rest_more h8]
      · have hd : l.drop 8 = [] := List.drop_eq_nil_of_le (by omega)
        have ht : l.take 8 = l := List.take_of_length_le (by omega)
        rw [hd, ht, feed_less (by simp), rest_less (by simp), feed_less h8, rest_less h8]
        unfold tailed
        rw [if_pos (show ([] : List UInt8).length = 0 from rfl), if_neg h0]
theorem of_eights (l : List UInt8) : of l = closed (eights start l) (UInt64.ofNat l.length) := by
  unfold of
  rw [eights_eq l.length _ _ (Nat.le_refl _)]
theorem of_short_inj {a b : List UInt8} (h0 : 1 ≤ a.length) (h8 : a.length ≤ 8) (hl : a.length = b.length) (h : of a = of b) : a = b := by
  rw [of_eights, of_eights, hl] at h
  have h1 := round_inj (round_inj (round_inj (round_inj h)))
  rw [eights_some (l := a) (by omega), eights_some (l := b) (by omega), eights_none (l := a.drop 8) (by simp; omega), eights_none (l := b.drop 8) (by simp; omega), List.take_of_length_le (l := a) h8, List.take_of_length_le (l := b) (by omega)] at h1
  exact word_inj h8 hl (round_word h1)

/-! ### words as bytes -/
def byteAt (x : UInt64) (k : Nat) : UInt8 := UInt8.ofNat (x.toNat / 256 ^ k)
def bytes8 (x : UInt64) : List UInt8 := (List.range 8).map (byteAt x)
def down (x : UInt64) : Nat → UInt64
  | 0 => x
  | k + 1 => down x k / 256
theorem down_toNat (x : UInt64) (k : Nat) : (down x k).toNat = x.toNat / 256 ^ k := by
  induction k with
  | zero => simp [down]
  | succ k ih =>
    rw [down, UInt64.toNat_div, ih, Nat.pow_succ, ← Nat.div_div_eq_div_mul]
    rfl
theorem down_byte (x : UInt64) (k : Nat) : (down x k % 256).toUInt8 = byteAt x k := by
  apply UInt8.toNat_inj.1
  unfold byteAt
  have h := down_toNat x k
  have e : ((down x k % 256).toUInt8).toNat = (down x k).toNat % 256 := by
    simp
  rw [e, h, UInt8.toNat_ofNat']
end Mix
end Go.Proofs.Ytcibngbgcnnjnaa

