/- Numbers, texts and sums: what was put is read, and what is read was put. Plain laws. No program. No condition. -/
import Derived.Test.YtcibngbgcnnjnaaVintReadE
set_option linter.unusedVariables false
set_option linter.unusedSimpArgs false
namespace Go.Proofs.Ytcibngbgcnnjnaa
namespace Vint
theorem scan_num (l : List UInt8) (most : Nat) (rest : List UInt8) (k : Nat) : ∀ i n m, m < k → l.drop i = num m ++ rest → i < 10 → n + 128 ^ i * m < 18446744073709551616 → n + 128 ^ i * m ≤ most → (0 < i → 0 < m) →
    scan l most i n = (0, n + 128 ^ i * m, i + (num m).length) := by
  induction k with
  | zero => intro i n m h; omega
  | succ k ih =>
    intro i n m hk hl hi hlt hle hpos
    have hp := num_pos m
    have hlen : i < l.length := by
      have := congrArg List.length hl
      rw [List.length_drop, List.length_append] at this
      omega
    have hdrop : l.drop i = l[i] :: l.drop (i + 1) := List.drop_eq_getElem_cons hlen
    have h9p : (128 : Nat) ^ 9 = 9223372036854775808 := by decide
    have h9 : ¬ (i = 9 ∧ 1 < (l[i]).toNat) := by
      rintro ⟨h9, h1⟩
      subst h9
      rw [h9p] at hlt
      have hm1 : m ≤ 1 := by omega
      rw [hdrop, num_small (by omega)] at hl
      have : l[9] = UInt8.ofNat m := by simpa using (List.cons.inj hl).1
      rw [this, UInt8.toNat_ofNat'] at h1
      omega
    rw [scan_step hi hlen h9]
    by_cases h128 : m < 128
    · rw [hdrop, num_small h128] at hl
      have hb : (l[i]).toNat = m := by
        have : l[i] = UInt8.ofNat m := by simpa using (List.cons.inj hl).1
        rw [this, UInt8.toNat_ofNat']
        omega
      rw [hb, if_neg (by omega), if_neg (by omega), Nat.mod_eq_of_lt h128, if_neg (by omega), num_small h128]
      rfl
    · rw [hdrop, num_big h128] at hl
      have hl2 := (List.cons.inj hl).2
      have hb : (l[i]).toNat = m % 128 + 128 := by
        have : l[i] = UInt8.ofNat (m % 128 + 128) := (List.cons.inj hl).1
        rw [this, UInt8.toNat_ofNat']
        omega
      have hmod : (m % 128 + 128) % 128 = m % 128 := by omega
      have hsplit : 128 ^ i * m = 128 ^ i * (m % 128) + 128 ^ (i + 1) * (m / 128) := by
        rw [Nat.pow_succ, Nat.mul_assoc, ← Nat.mul_add]
        congr 1
        omega
      have hi9 : i + 1 < 10 := by
        rcases Nat.lt_or_ge (i + 1) 10 with h | h
        · exact h
        · have : i = 9 := by omega
          subst this
          rw [h9p] at hlt
          omega
      rw [hb, if_pos (by omega), hmod, ih (i + 1) (n + 128 ^ i * (m % 128)) (m / 128) (by omega) hl2 hi9 (by rw [Nat.add_assoc, ← hsplit]; exact hlt) (by rw [Nat.add_assoc, ← hsplit]; exact hle) (fun _ => by omega)]
      rw [num_big h128, List.length_cons]
      rw [hsplit]
      refine Prod.ext rfl (Prod.ext ?_ ?_)
      · show n + 128 ^ i * (m % 128) + 128 ^ (i + 1) * (m / 128) = _; rw [Nat.add_assoc]
      · show i + 1 + (num (m / 128)).length = i + ((num (m / 128)).length + 1); omega
theorem get_num (x : UInt64) (rest : List UInt8) (most : Nat) (h : x.toNat ≤ most) : get (num x.toNat ++ rest, 0) most = ((rest, 0), x.toNat) := by
  have hx := x.toNat_lt
  have hs := scan_num (num x.toNat ++ rest) most rest (x.toNat + 1) 0 0 x.toNat (by omega) rfl (by omega) (by show _ < 2 ^ 64; omega) (by omega) (fun h => by omega)
  unfold get
  rw [if_pos rfl, hs, if_pos rfl]
  simp
theorem fold8_be8 (x : UInt64) : fold8 (be8 x) = x := by
  apply UInt64.toNat_inj.1
  have hx := x.toNat_lt
  have e : be8 x = [UInt8.ofNat (x.toNat / 256 ^ 7), UInt8.ofNat (x.toNat / 256 ^ 6), UInt8.ofNat (x.toNat / 256 ^ 5), UInt8.ofNat (x.toNat / 256 ^ 4), UInt8.ofNat (x.toNat / 256 ^ 3), UInt8.ofNat (x.toNat / 256 ^ 2), UInt8.ofNat (x.toNat / 256 ^ 1), UInt8.ofNat (x.toNat / 256 ^ 0)] := rfl
  rw [e]
  unfold fold8
  simp only [List.foldl_cons, List.foldl_nil, UInt64.toNat_add, UInt64.toNat_mul, UInt8.toNat_toUInt64, UInt8.toNat_ofNat']
  generalize x.toNat = n at *
  have h0 : (0 : UInt64).toNat = 0 := rfl
  have h1 : (256 : UInt64).toNat = 256 := rfl
  rw [h0, h1]
  have p7 : (256 : Nat) ^ 7 = 72057594037927936 := by decide
  have p6 : (256 : Nat) ^ 6 = 281474976710656 := by decide
  have p5 : (256 : Nat) ^ 5 = 1099511627776 := by decide
  have p4 : (256 : Nat) ^ 4 = 4294967296 := by decide
  have p3 : (256 : Nat) ^ 3 = 16777216 := by decide
  have p2 : (256 : Nat) ^ 2 = 65536 := by decide
  have p1 : (256 : Nat) ^ 1 = 256 := by decide
  have p0 : (256 : Nat) ^ 0 = 1 := by decide
  rw [p7, p6, p5, p4, p3, p2, p1, p0]
  omega
theorem getSum_sum (x y : UInt64) (rest : List UInt8) : getSum (sum x y ++ rest, 0) = ((rest, 0), (x, y)) := by
  have hl : (sum x y).length = 16 := by unfold sum; rw [List.length_append, be8_length, be8_length]
  unfold getSum
  rw [if_pos rfl, if_neg (by rw [List.length_append]; omega)]
  have e1 : word8 (sum x y ++ rest) = x := by
    unfold word8
    rw [List.take_append_of_le_length (by omega)]
    unfold sum
    rw [List.take_append_of_le_length (by rw [be8_length]; omega), List.take_of_length_le (by rw [be8_length]; omega)]
    exact fold8_be8 x
  have e2 : word8 ((sum x y ++ rest).drop 8) = y := by
    unfold word8 sum
    rw [List.append_assoc, List.drop_append_of_le_length (by rw [be8_length]; omega), List.drop_of_length_le (by rw [be8_length]; omega), List.nil_append, List.take_append_of_le_length (by rw [be8_length]; omega), List.take_of_length_le (by rw [be8_length]; omega)]
    exact fold8_be8 y
  have e3 : (sum x y ++ rest).drop 16 = rest := by rw [← hl, List.drop_left]
  rw [e1, e2, e3]
theorem ofNat_byte (c : UInt8) (h : 128 ≤ c.toNat) : UInt8.ofNat (c.toNat % 128 + 128) = c := by
  apply UInt8.toNat_inj.1
  rw [UInt8.toNat_ofNat']
  have := c.toNat_lt
  omega
theorem scan_back (l : List UInt8) (most : Nat) (k : Nat) : ∀ i n, 10 - i ≤ k → (scan l most i n).1 = 0 → ∃ m, (scan l most i n).2.1 = n + 128 ^ i * m ∧ l.drop i = num m ++ l.drop (scan l most i n).2.2 ∧ (0 < i → 0 < m) := by
  induction k with
  | zero =>
    intro i n hk h
    rw [scan, dif_neg (by omega)] at h
    cases h
  | succ k ih =>
    intro i n hk h
    by_cases h10 : i < 10
    · by_cases hl : l.length ≤ i
      · rw [scan, dif_pos h10, if_pos hl] at h; cases h
      · have hli : i < l.length := by omega
        have hd : l.getD i 0 = l[i] := by simp [List.getD, hli]
        by_cases h9 : i = 9 ∧ 1 < (l[i]).toNat
        · rw [scan, dif_pos h10, if_neg hl, hd, if_pos h9] at h; cases h
        · rw [scan_step h10 hli h9] at h ⊢
          have hdrop : l.drop i = l[i] :: l.drop (i + 1) := List.drop_eq_getElem_cons hli
          by_cases h128 : 128 ≤ (l[i]).toNat
          · rw [if_pos h128] at h ⊢
            obtain ⟨m, h1, h2, h3⟩ := ih _ _ (by omega) h
            have hm := h3 (by omega)
            refine ⟨(l[i]).toNat % 128 + 128 * m, ?_, ?_, fun _ => by omega⟩
            · rw [h1, Nat.pow_succ, Nat.mul_add, Nat.mul_assoc, Nat.add_assoc]
            · have hnb : ¬ (l[i]).toNat % 128 + 128 * m < 128 := by omega
              have e1 : ((l[i]).toNat % 128 + 128 * m) % 128 = (l[i]).toNat % 128 := by omega
              have e2 : ((l[i]).toNat % 128 + 128 * m) / 128 = m := by omega
              rw [num_big hnb, e1, e2, ofNat_byte _ h128, hdrop, h2]
              rfl
          · rw [if_neg h128] at h ⊢
            by_cases h0 : (l[i]).toNat = 0 ∧ 0 < i
            · rw [if_pos h0] at h; cases h
            · rw [if_neg h0] at h ⊢
              by_cases hm : most < n + 128 ^ i * ((l[i]).toNat % 128)
              · rw [if_pos hm] at h; cases h
              · rw [if_neg hm]
                refine ⟨(l[i]).toNat, ?_, ?_, fun h => by omega⟩
                · show n + 128 ^ i * ((l[i]).toNat % 128) = _
                  rw [Nat.mod_eq_of_lt (by omega)]
                · show l.drop i = num (l[i]).toNat ++ l.drop (i + 1)
                  rw [num_small (by omega), hdrop]
                  simp
    · rw [scan, dif_neg h10] at h; cases h
theorem get_num' {n : Nat} (rest : List UInt8) (most : Nat) (h : n ≤ most) (hn : n < 18446744073709551616) : get (num n ++ rest, 0) most = ((rest, 0), n) := by
  have e : (UInt64.ofNat n).toNat = n := by rw [UInt64.toNat_ofNat']; exact Nat.mod_eq_of_lt hn
  have := get_num (UInt64.ofNat n) rest most (by omega)
  rwa [e] at this
theorem getText_text' (s rest : List UInt8) (most : Nat) (hm : s.length ≤ most) (h : s.length < 18446744073709551616) : getText (text s ++ rest, 0) most = ((rest, 0), s) := by
  have hg := get_num' (n := s.length) (s ++ rest) most hm h
  unfold getText text
  rw [List.append_assoc, hg]
  rw [if_pos rfl, if_neg (by rw [List.length_append]; omega)]
  simp
theorem get_back (l : List UInt8) (most : Nat) (h : (get (l, 0) most).1.2 = 0) : l = num (get (l, 0) most).2 ++ (get (l, 0) most).1.1 := by
  unfold get at h ⊢
  rw [if_pos rfl] at h ⊢
  by_cases hs : (scan l most 0 0).1 = 0
  · rw [if_pos hs]
    obtain ⟨m, h1, h2, _⟩ := scan_back l most 10 0 0 (by omega) hs
    show l = num (scan l most 0 0).2.1 ++ l.drop (scan l most 0 0).2.2
    rw [h1]
    rw [List.drop_zero] at h2
    have e : 0 + 128 ^ 0 * m = m := by omega
    rw [e]
    exact h2
  · rw [if_neg hs] at h
    exact absurd h hs
theorem get_stops {s : RS} (h : s.2 = 0) {most : Nat} (he : (get s most).1.2 ≠ 0) : (get s most).1.1 = [] ∧ (get s most).2 = 0 := by
  unfold get at he ⊢
  rw [if_pos h] at he ⊢
  by_cases hs : (scan s.1 most 0 0).1 = 0
  · rw [if_pos hs] at he
    exact absurd rfl he
  · rw [if_neg hs]
    exact ⟨rfl, rfl⟩
theorem get_stuck {s : RS} (h : s.2 ≠ 0) (most : Nat) : get s most = (s, 0) := by unfold get; rw [if_neg h]
theorem get_less (l : List UInt8) (most : Nat) (h : (get (l, 0) most).1.2 = 0) : (get (l, 0) most).1.1.length < l.length := by
  have e := congrArg List.length (get_back l most h)
  rw [List.length_append] at e
  have := num_pos (get (l, 0) most).2
  omega
theorem getText_ok {s : RS} {most : Nat} (h : (getText s most).1.2 = 0) : (get s most).1.2 = 0 ∧ (get s most).2 ≤ (get s most).1.1.length ∧ (getText s most) = (((get s most).1.1.drop (get s most).2, 0), (get s most).1.1.take (get s most).2) := by
  unfold getText at h ⊢
  by_cases h1 : (get s most).1.2 = 0
  · rw [if_pos h1] at h ⊢
    by_cases h2 : (get s most).1.1.length < (get s most).2
    · rw [if_pos h2] at h; cases h
    · rw [if_neg h2]
      exact ⟨h1, by omega, rfl⟩
  · rw [if_neg h1] at h
    exact absurd h h1
theorem getText_back (l : List UInt8) (most : Nat) (h : (getText (l, 0) most).1.2 = 0) : l = text (getText (l, 0) most).2 ++ (getText (l, 0) most).1.1 ∧ (getText (l, 0) most).2.length ≤ most := by
  obtain ⟨h1, h2, h3⟩ := getText_ok h
  have hb := get_back l most h1
  have hle := get_le (l, 0) most
  rw [h3]
  have hl : ((get (l, 0) most).1.1.take (get (l, 0) most).2).length = (get (l, 0) most).2 := List.length_take_of_le h2
  refine ⟨?_, by rw [hl]; exact hle⟩
  unfold text
  rw [hl, List.append_assoc, List.take_append_drop]
  exact hb
theorem getText_stops {s : RS} (h : s.2 = 0) {most : Nat} (he : (getText s most).1.2 ≠ 0) : (getText s most).1.1 = [] ∧ (getText s most).2 = [] := by
  unfold getText at he ⊢
  by_cases h1 : (get s most).1.2 = 0
  · rw [if_pos h1] at he ⊢
    by_cases h2 : (get s most).1.1.length < (get s most).2
    · rw [if_pos h2]; exact ⟨rfl, rfl⟩
    · rw [if_neg h2] at he
      exact absurd rfl he
  · rw [if_neg h1]
    exact ⟨(get_stops h h1).1, rfl⟩
theorem getText_stuck {s : RS} (h : s.2 ≠ 0) (most : Nat) : getText s most = (s, []) := by unfold getText; rw [get_stuck h, if_neg h]
theorem getText_short (s : RS) (most : Nat) : (getText s most).2.length ≤ s.1.length ∧ (getText s most).1.1.length ≤ s.1.length ∧ (getText s most).2.length ≤ most := by
  have hg : (get s most).1.1.length ≤ s.1.length := by
    by_cases h : s.2 = 0
    · by_cases h2 : (get s most).1.2 = 0
      · obtain ⟨l, e⟩ := s
        obtain rfl : e = 0 := h
        exact Nat.le_of_lt (get_less l most h2)
      · rw [(get_stops h h2).1]; simp
    · rw [get_stuck h]; exact Nat.le_refl _
  have hm := get_le s most
  unfold getText
  split
  · split
    · simp
    · simp only [List.length_take, List.length_drop]; omega
  · simp; exact hg
theorem word8_be8 (l : List UInt8) (h : 8 ≤ l.length) : be8 (word8 l) = l.take 8 := by
  obtain ⟨a, b, c, d, e, f, g, i, r, rfl⟩ : ∃ a b c d e f g i r, l = a :: b :: c :: d :: e :: f :: g :: i :: r := by
    match l, h with
    | a :: b :: c :: d :: e :: f :: g :: i :: r, _ => exact ⟨a, b, c, d, e, f, g, i, r, rfl⟩
  have ev : (word8 (a :: b :: c :: d :: e :: f :: g :: i :: r)).toNat = ((((((a.toNat * 256 + b.toNat) * 256 + c.toNat) * 256 + d.toNat) * 256 + e.toNat) * 256 + f.toNat) * 256 + g.toNat) * 256 + i.toNat := by
    unfold word8
    simp only [List.take_succ_cons, List.take_zero, List.foldl_cons, List.foldl_nil, UInt64.toNat_add, UInt64.toNat_mul, UInt8.toNat_toUInt64]
    have h0 : (0 : UInt64).toNat = 0 := rfl
    have h1 : (256 : UInt64).toNat = 256 := rfl
    rw [h0, h1]
    have := a.toNat_lt; have := b.toNat_lt; have := c.toNat_lt; have := d.toNat_lt
    have := e.toNat_lt; have := f.toNat_lt; have := g.toNat_lt; have := i.toNat_lt
    omega
  have hb : ∀ (z : UInt8) (n : Nat), n % 256 = z.toNat → UInt8.ofNat n = z := fun z n hz => by
    apply UInt8.toNat_inj.1
    rw [UInt8.toNat_ofNat']
    exact hz
  have q : be8 (word8 (a :: b :: c :: d :: e :: f :: g :: i :: r)) = [UInt8.ofNat ((word8 (a :: b :: c :: d :: e :: f :: g :: i :: r)).toNat / 256 ^ 7), UInt8.ofNat ((word8 (a :: b :: c :: d :: e :: f :: g :: i :: r)).toNat / 256 ^ 6), UInt8.ofNat ((word8 (a :: b :: c :: d :: e :: f :: g :: i :: r)).toNat / 256 ^ 5), UInt8.ofNat ((word8 (a :: b :: c :: d :: e :: f :: g :: i :: r)).toNat / 256 ^ 4), UInt8.ofNat ((word8 (a :: b :: c :: d :: e :: f :: g :: i :: r)).toNat / 256 ^ 3), UInt8.ofNat ((word8 (a :: b :: c :: d :: e :: f :: g :: i :: r)).toNat / 256 ^ 2), UInt8.ofNat ((word8 (a :: b :: c :: d :: e :: f :: g :: i :: r)).toNat / 256 ^ 1), UInt8.ofNat ((word8 (a :: b :: c :: d :: e :: f :: g :: i :: r)).toNat / 256 ^ 0)] := rfl
  rw [q, ev]
  have p7 : (256 : Nat) ^ 7 = 72057594037927936 := by decide
  have p6 : (256 : Nat) ^ 6 = 281474976710656 := by decide
  have p5 : (256 : Nat) ^ 5 = 1099511627776 := by decide
  have p4 : (256 : Nat) ^ 4 = 4294967296 := by decide
  have p3 : (256 : Nat) ^ 3 = 16777216 := by decide
  have p2 : (256 : Nat) ^ 2 = 65536 := by decide
  have p1 : (256 : Nat) ^ 1 = 256 := by decide
  have p0 : (256 : Nat) ^ 0 = 1 := by decide
  rw [p7, p6, p5, p4, p3, p2, p1, p0]
  have := a.toNat_lt; have := b.toNat_lt; have := c.toNat_lt; have := d.toNat_lt
  have := e.toNat_lt; have := f.toNat_lt; have := g.toNat_lt; have := i.toNat_lt
  simp only [List.take_succ_cons, List.take_zero]
  rw [hb a _ (by omega), hb b _ (by omega), hb c _ (by omega), hb d _ (by omega), hb e _ (by omega), hb f _ (by omega), hb g _ (by omega), hb i _ (by omega)]
theorem getSum_back (l : List UInt8) (h : (getSum (l, 0)).1.2 = 0) : l = sum (getSum (l, 0)).2.1 (getSum (l, 0)).2.2 ++ (getSum (l, 0)).1.1 := by
  unfold getSum at h ⊢
  rw [if_pos rfl] at h ⊢
  by_cases h16 : l.length < 16
  · rw [if_pos h16] at h; cases h
  · rw [if_neg h16]
    show l = (be8 (word8 l) ++ be8 (word8 (l.drop 8))) ++ l.drop 16
    rw [word8_be8 l (by omega), word8_be8 (l.drop 8) (by rw [List.length_drop]; omega), List.append_assoc]
    rw [show l.drop 16 = (l.drop 8).drop 8 by rw [List.drop_drop], List.take_append_drop, List.take_append_drop]
theorem ended_zero {s : RS} (h : ended s = 0) : s.2 = 0 ∧ s.1 = [] := by
  unfold ended at h
  by_cases h1 : s.2 = 0 ∧ 0 < s.1.length
  · rw [if_pos h1] at h; cases h
  · rw [if_neg h1] at h
    exact ⟨h, List.eq_nil_of_length_eq_zero (by omega)⟩
end Vint
end Go.Proofs.Ytcibngbgcnnjnaa

