/- A signature of bytes, put, read: plain definitions and laws. No program. No condition. -/
import Derived.Test.YtcibngbgcnnjnaaBlkSpec
import Derived.Test.YtcibngbgcnnjnaaVintPlain
import Derived.Test.YtcibngbgcnnjnaaVintReadC
import Derived.Test.YtcibngbgcnnjnaaRollSpec
import Derived.Test.YtcibngbgcnnjnaaMixHash
set_option linter.unusedVariables false
set_option linter.unusedSimpArgs false
namespace Go.Proofs.Ytcibngbgcnnjnaa
open Vint Bl
namespace Sg
abbrev Sign := UInt32 × Mix.St
structure Sig where
  size : Int
  bs : List Sign
  tail : Int
  last : Sign
deriving DecidableEq
def zero : Sign := (0, (0, 0))
def sign (l : List UInt8) : Sign := (Roll.of l, Mix.of l)
def full (l : List UInt8) (h : Nat) : List Sign := (List.range (l.length / h)).map fun k => sign (at_ l h k)
def lastOf (l : List UInt8) (h : Nat) : Sign := if 0 < l.length % h then sign (at_ l h (l.length / h)) else zero
def sigOf (l : List UInt8) (size : Int) : Sig := ⟨(hold size : Int), full l (hold size), ((l.length % hold size : Nat) : Int), lastOf l (hold size)⟩
def right (s : Sig) : Bool := decide (4 ≤ s.size ∧ s.size ≤ 64 ∧ s.bs.length ≤ 4096 ∧ 0 ≤ s.tail ∧ s.tail < s.size) && (decide (0 < s.tail) || s.last == zero)
def total (s : Sig) : Int := if right s then (s.bs.length : Int) * s.size + s.tail else 0
def signB (x : Sign) : List UInt8 := num x.1.toNat ++ sum x.2.1 x.2.2
def putB (s : Sig) : List UInt8 := if right s then num s.size.toNat ++ (num s.bs.length ++ (s.bs.flatMap signB ++ (num s.tail.toNat ++ if 0 < s.tail then signB s.last else []))) else []
/-- A sign, read. -/
def one (s : RS) : RS × Sign := ((getSum (get s 4294967295).1).1, (UInt32.ofNat (get s 4294967295).2, (getSum (get s 4294967295).1).2))
/-- Signs, read, as long as nothing is wrong. -/
def rowsF : Nat → RS → List Sign → RS × List Sign
  | 0, s, out => (s, out)
  | n + 1, s, out => if s.2 ≠ 0 then (s, out) else rowsF n (one s).1 (out ++ [(one s).2])
/-- As long as something is left. -/
def rowsC : Nat → RS → List Sign → RS × List Sign
  | 0, s, out => (s, out)
  | n + 1, s, out => if s.1.length = 0 then (s, out) else rowsC n (one s).1 (out ++ [(one s).2])
def empty : Sig := ⟨0, [], 0, zero⟩
def lastR (s : RS) (t : Nat) : RS × Sign := if 0 < t then one s else (s, zero)
def fin (z : Nat) (rs : List Sign) (t : Nat) (q : RS × Sign) : Sig × Nat :=
  if ended q.1 ≠ 0 then (empty, ended q.1) else if right ⟨(z : Int), rs, (t : Int), q.2⟩ then (⟨(z : Int), rs, (t : Int), q.2⟩, 0) else (empty, 3)
def fin2 (z : Nat) (q : RS × List Sign) : Sig × Nat := fin z q.2 (get q.1 63).2 (lastR (get q.1 63).1 (get q.1 63).2)
def gets (l : List UInt8) : Sig × Nat :=
  fin2 (get (l, 0) 64).2 (rowsF (get (get (l, 0) 64).1 4096).2 (get (get (l, 0) 64).1 4096).1 [])
def short (s : RS) : Nat := if ended s ≠ 0 then ended s else 4
def fin3 (z n : Nat) (q : RS × List Sign) : Sig × Nat := if q.2.length < n then (empty, short q.1) else fin2 z q
theorem right_spec {s : Sig} (h : right s = true) : 4 ≤ s.size ∧ s.size ≤ 64 ∧ s.bs.length ≤ 4096 ∧ 0 ≤ s.tail ∧ s.tail < s.size ∧ (0 < s.tail ∨ s.last = zero) := by
  unfold right at h
  simp only [Bool.and_eq_true, Bool.or_eq_true, decide_eq_true_eq, beq_iff_eq] at h
  obtain ⟨⟨h1, h2, h3, h4, h5⟩, h6⟩ := h
  exact ⟨h1, h2, h3, h4, h5, h6⟩
theorem right_mk {s : Sig} (h1 : 4 ≤ s.size) (h2 : s.size ≤ 64) (h3 : s.bs.length ≤ 4096) (h4 : 0 ≤ s.tail) (h5 : s.tail < s.size) (h6 : 0 < s.tail ∨ s.last = zero) : right s = true := by
  unfold right
  simp only [Bool.and_eq_true, Bool.or_eq_true, decide_eq_true_eq, beq_iff_eq]
  exact ⟨⟨h1, h2, h3, h4, h5⟩, h6⟩
theorem full_len (l : List UInt8) (h : Nat) : (full l h).length = l.length / h := by unfold full; simp
theorem right_sigOf (l : List UInt8) (size : Int) (hl : l.length ≤ 16384) : right (sigOf l size) = true := by
  have hh := hold_pos size
  have h2 : l.length / hold size ≤ 4096 := by
    refine Nat.le_trans (Nat.div_le_div_left hh.1 (by omega)) ?_
    omega
  have h3 := Nat.mod_lt l.length (y := hold size) (by omega)
  refine right_mk (by simp only [sigOf]; omega) (by simp only [sigOf]; omega) (by simp only [sigOf, full_len]; exact h2) (by simp only [sigOf]; omega) (by simp only [sigOf]; omega) ?_
  by_cases h : 0 < l.length % hold size
  · exact .inl (by simp only [sigOf]; omega)
  · refine .inr ?_
    simp only [sigOf, lastOf]
    rw [if_neg h]
theorem total_sigOf (l : List UInt8) (size : Int) (hl : l.length ≤ 16384) : total (sigOf l size) = (l.length : Int) := by
  unfold total
  rw [if_pos (right_sigOf l size hl)]
  simp only [sigOf, full_len]
  have h := Nat.div_add_mod l.length (hold size)
  rw [Nat.mul_comm] at h
  have h2 : ((l.length / hold size * hold size + l.length % hold size : Nat) : Int) = (l.length : Int) := by rw [h]
  rw [Int.natCast_add, Int.natCast_mul] at h2
  exact h2
theorem one_put (x : Sign) (r : List UInt8) : one (signB x ++ r, 0) = ((r, 0), x) := by
  obtain ⟨a, b, c⟩ := x
  unfold signB one
  simp only
  have ha := a.toNat_lt
  rw [List.append_assoc, get_num' (n := a.toNat) (sum b c ++ r) 4294967295 (by omega) (by omega)]
  simp only
  rw [getSum_sum]
  simp
theorem rowsF_put (bs : List Sign) (r : List UInt8) : ∀ out, rowsF bs.length (bs.flatMap signB ++ r, 0) out = ((r, 0), out ++ bs) := by
  induction bs with
  | nil => intro out; simp [rowsF]
  | cons x bs ih =>
    intro out
    rw [List.length_cons, rowsF, List.flatMap_cons, List.append_assoc, one_put]
    rw [if_neg (by simp)]
    simp only
    rw [ih, List.append_assoc]
    rfl
theorem gets_put {s : Sig} (h : right s = true) : gets (putB s) = (s, 0) := by
  obtain ⟨h1, h2, h3, h4, h5, h6⟩ := right_spec h
  unfold putB gets
  rw [if_pos h]
  rw [get_num' (n := s.size.toNat) _ 64 (by omega) (by omega)]
  simp only
  rw [get_num' (n := s.bs.length) _ 4096 (by omega) (by omega)]
  simp only
  rw [rowsF_put]
  unfold fin2
  simp only [List.nil_append]
  rw [get_num' (n := s.tail.toNat) _ 63 (by omega) (by omega)]
  simp only
  have e1 : ((s.size.toNat : Nat) : Int) = s.size := by omega
  have e2 : ((s.tail.toNat : Nat) : Int) = s.tail := by omega
  have e3 : lastR ((if 0 < s.tail then signB s.last else []), 0) s.tail.toNat = (([], 0), s.last) := by
    unfold lastR
    by_cases ht : 0 < s.tail
    · rw [if_pos (by omega), if_pos ht]
      have := one_put s.last []
      rwa [List.append_nil] at this
    · rw [if_neg (by omega), if_neg ht]
      rcases h6 with h6 | h6
      · exact absurd h6 ht
      · rw [h6]
  rw [e3]
  unfold fin
  rw [e1, e2, if_neg (by simp [ended]), if_pos h]
theorem get_ok {s : RS} {m : Nat} (h : (get s m).1.2 = 0) : s.2 = 0 ∧ s.1 = num (get s m).2 ++ (get s m).1.1 := by
  obtain ⟨l, e⟩ := s
  by_cases he : e = 0
  · subst he
    exact ⟨rfl, get_back l m h⟩
  · rw [get_stuck (s := (l, e)) he] at h
    exact absurd h he
theorem getSum_ok {s : RS} (h : (getSum s).1.2 = 0) : s.2 = 0 ∧ s.1 = sum (getSum s).2.1 (getSum s).2.2 ++ (getSum s).1.1 := by
  obtain ⟨l, e⟩ := s
  by_cases he : e = 0
  · subst he
    exact ⟨rfl, getSum_back l h⟩
  · unfold getSum at h
    rw [if_neg he] at h
    exact absurd h he
theorem one_ok {s : RS} (h : (one s).1.2 = 0) : s.2 = 0 ∧ s.1 = signB (one s).2 ++ (one s).1.1 := by
  unfold one at h ⊢
  obtain ⟨h1, h2⟩ := getSum_ok h
  obtain ⟨h3, h4⟩ := get_ok h1
  have hle := get_le s 4294967295
  have hle2 : (get s 4294967295).2 < 4294967296 := by omega
  refine ⟨h3, ?_⟩
  unfold signB
  simp only
  rw [UInt32.toNat_ofNat_of_lt' hle2, List.append_assoc, ← h2]
  exact h4
theorem rowsF_ok : ∀ (n : Nat) (s : RS) (out : List Sign), (rowsF n s out).1.2 = 0 → s.2 = 0 ∧ ∃ L, (rowsF n s out).2 = out ++ L ∧ L.length = n ∧ s.1 = L.flatMap signB ++ (rowsF n s out).1.1 := by
  intro n
  induction n with
  | zero => intro s out h; exact ⟨h, [], by simp [rowsF], rfl, by simp [rowsF]⟩
  | succ n ih =>
    intro s out h
    rw [rowsF] at h ⊢
    by_cases hs : s.2 = 0
    · rw [if_neg (by simpa using hs)] at h ⊢
      obtain ⟨h1, L, h2, h3, h4⟩ := ih _ _ h
      obtain ⟨h5, h6⟩ := one_ok h1
      refine ⟨hs, (one s).2 :: L, ?_, by simp [h3], ?_⟩
      · rw [h2]; simp
      · rw [h6, h4]; simp
    · rw [if_pos hs] at h
      exact absurd h hs
theorem ended_ok {s : RS} (h : ended s = 0) : s.2 = 0 ∧ s.1 = [] := ended_zero h
theorem lastR_ok {s : RS} {t : Nat} (h : (lastR s t).1.2 = 0) : s.2 = 0 ∧ s.1 = (if 0 < t then signB (lastR s t).2 else []) ++ (lastR s t).1.1 := by
  unfold lastR at h ⊢
  by_cases ht : 0 < t
  · rw [if_pos ht] at h ⊢
    rw [if_pos ht]
    exact one_ok h
  · rw [if_neg ht] at h ⊢
    rw [if_neg ht]
    exact ⟨h, rfl⟩
theorem fin_ok {z : Nat} {rs : List Sign} {t : Nat} {q : RS × Sign} (h : (fin z rs t q).2 = 0) : ended q.1 = 0 ∧ right ⟨(z : Int), rs, (t : Int), q.2⟩ = true ∧ fin z rs t q = (⟨(z : Int), rs, (t : Int), q.2⟩, 0) := by
  unfold fin at h ⊢
  by_cases he : ended q.1 = 0
  · rw [if_neg (by simpa using he)] at h ⊢
    by_cases hr : right ⟨(z : Int), rs, (t : Int), q.2⟩ = true
    · rw [if_pos hr]
      exact ⟨he, hr, rfl⟩
    · rw [if_neg hr] at h
      cases h
  · rw [if_pos he] at h
    exact absurd h he
/-- What is read as right is what is put. -/
theorem gets_back {l : List UInt8} (h : (gets l).2 = 0) : putB (gets l).1 = l := by
  unfold gets fin2 at h ⊢
  obtain ⟨h1, h2, h3⟩ := fin_ok h
  rw [h3]
  clear h h3
  obtain ⟨e1, e2⟩ := ended_ok h1
  obtain ⟨e3, e4⟩ := lastR_ok e1
  obtain ⟨e5, e6⟩ := get_ok e3
  obtain ⟨e7, L, e8, e9, e10⟩ := rowsF_ok _ _ _ e5
  obtain ⟨e11, e12⟩ := get_ok e7
  obtain ⟨e13, e14⟩ := get_ok e11
  rw [e2, List.append_nil] at e4
  unfold putB
  rw [if_pos h2]
  simp only [Int.toNat_natCast]
  rw [List.nil_append] at e8
  simp only at e14
  generalize get (l, 0) 64 = q1 at *
  generalize get q1.1 4096 = q2 at *
  generalize rowsF q2.2 q2.1 [] = q3 at *
  generalize get q3.1 63 = q4 at *
  generalize lastR q4.1 q4.2 = q5 at *
  rw [e14, e12, e10, e6, e4, e8, e9]
  congr 4
  by_cases ht : 0 < q4.2
  · rw [if_pos ht, if_pos (by omega)]
  · rw [if_neg ht, if_neg (by omega)]
theorem getSum_stops {s : RS} (h : (getSum s).1.2 ≠ 0) (hs : s.2 ≠ 0 → s.1 = []) : (getSum s).1.1 = [] := by
  unfold getSum at h ⊢
  by_cases h1 : s.2 = 0
  · rw [if_pos h1] at h ⊢
    by_cases h2 : s.1.length < 16
    · rw [if_pos h2]
    · rw [if_neg h2] at h
      exact absurd rfl h
  · rw [if_neg h1]
    exact hs h1
theorem get_stops' {s : RS} {m : Nat} (h : (get s m).1.2 ≠ 0) (hs : s.2 ≠ 0 → s.1 = []) : (get s m).1.1 = [] := by
  by_cases h1 : s.2 = 0
  · exact (get_stops h1 h).1
  · rw [get_stuck h1]
    exact hs h1
theorem one_stops {s : RS} (h : (one s).1.2 ≠ 0) (hs : s.2 ≠ 0 → s.1 = []) : (one s).1.1 = [] := getSum_stops h fun h2 => get_stops' h2 hs
theorem one_empty : (one ([], 0)).1 = ([], 4) := by
  have e : Vint.get ([], 0) 4294967295 = (([], 4), 0) := by
    unfold Vint.get
    have : scan [] 4294967295 0 0 = (4, 0, 0) := by unfold scan; rfl
    simp only [this]
    rfl
  unfold one
  rw [e]
  unfold getSum
  rfl
theorem get_len0 (s : RS) (m : Nat) (h : s.2 ≠ 0) : (get s m).2 = 0 := by rw [get_stuck h]
/-- Both ways of reading signs come to the same. -/
theorem rows_same (z N : Nat) : ∀ (n : Nat) (s : RS) (out : List Sign), out.length + n = N → (s.2 ≠ 0 → s.1 = []) → (s.2 = 0 ∨ 0 < n ∨ True) →
    fin3 z N (rowsC n s out) = fin2 z (rowsF n s out) := by
  intro n
  induction n with
  | zero =>
    intro s out hN hs _
    unfold rowsC rowsF fin3
    rw [if_neg (by simp only; omega)]
  | succ n ih =>
    intro s out hN hs _
    rw [rowsC, rowsF]
    have lastErr : ∀ e : Nat, e ≠ 0 → ∀ o, fin2 z (([], e), o) = (empty, e) := by
      intro e he o
      unfold fin2
      simp only
      rw [get_stuck (s := ([], e)) he]
      unfold lastR fin
      simp only [Nat.lt_irrefl, if_false]
      have : ended ([], e) = e := by unfold ended; rw [if_neg (by simp)]
      rw [this, if_pos he]
    by_cases h0 : s.1.length = 0
    · rw [if_pos h0]
      have h0' : s.1 = [] := List.eq_nil_of_length_eq_zero h0
      unfold fin3
      rw [if_pos (by simp only; omega)]
      by_cases he : s.2 = 0
      · rw [if_neg (by simpa using he)]
        obtain ⟨l, e⟩ := s
        simp only at h0' he
        subst h0' he
        have hF : ∀ k o, rowsF k ([], 4) o = (([], 4), o) := by
          intro k o
          cases k
          · rfl
          · rw [rowsF, if_pos (by simp)]
        rw [one_empty, hF, lastErr 4 (by decide)]
        rfl
      · rw [if_pos he]
        obtain ⟨l, e⟩ := s
        simp only at h0' he
        subst h0'
        rw [lastErr e he]
        unfold short
        have : ended ([], e) = e := by unfold ended; rw [if_neg (by simp)]
        simp only [this]
        rw [if_pos he]
    · rw [if_neg h0]
      by_cases he : s.2 = 0
      · rw [if_neg (by simpa using he)]
        exact ih _ _ (by simp; omega) (fun h => one_stops h hs) (.inr (.inr trivial))
      · exact absurd (by rw [hs he]; rfl) h0
theorem gets_eq (l : List UInt8) : gets l = fin3 (get (l, 0) 64).2 (get (get (l, 0) 64).1 4096).2 (rowsC (get (get (l, 0) 64).1 4096).2 (get (get (l, 0) 64).1 4096).1 []) :=
  (rows_same _ _ _ _ [] (by simp) (fun h => get_stops' h (fun h2 => get_stops' h2 (fun h3 => absurd rfl h3))) (.inr (.inr trivial))).symm
end Sg
end Go.Proofs.Ytcibngbgcnnjnaa

