/- The document's frames: plain definitions, and the laws on them. No program. No condition. -/
import Derived.Test.YtgkcbhijkcbjkaaDoorVintPlain
import Derived.Test.YtgkcbhijkcbjkaaDoorCrcLaw
set_option linter.unusedVariables false
set_option linter.unusedSimpArgs false
namespace Go.Proofs.YtgkcbhijkcbjkaaDoor
open Vint Crc
namespace Fm
structure Frm where
  k : Int
  b : UInt64
  n : UInt64
  d : List UInt8
deriving DecidableEq
def zero : Frm := ⟨0, 0, 0, []⟩
def right (f : Frm) : Bool := decide (0 ≤ f.k ∧ f.k ≤ 255 ∧ f.d.length ≤ 131072)
def body (f : Frm) : List UInt8 := num f.k.toNat ++ num f.b.toNat ++ num f.n.toNat ++ text f.d
def putF (f : Frm) : List UInt8 := if right f then sealed (body f) else []
def most64 : Nat := 18446744073709551615
def readF (s : RS) : RS × Frm :=
  ((getText (get (get (get s 255).1 most64).1 most64).1 131072).1,
    ⟨((get s 255).2 : Int), UInt64.ofNat (get (get s 255).1 most64).2, UInt64.ofNat (get (get (get s 255).1 most64).1 most64).2, (getText (get (get (get s 255).1 most64).1 most64).1 131072).2⟩)
def endF (q : RS × Frm) : Frm × Nat := if ended q.1 ≠ 0 then (zero, ended q.1) else (q.2, 0)
def getF (l : List UInt8) : Frm × Nat := if (opened l).2 ≠ 0 then (zero, (opened l).2) else endF (readF ((opened l).1, 0))
theorem right_spec {f : Frm} (h : right f = true) : 0 ≤ f.k ∧ f.k ≤ 255 ∧ f.d.length ≤ 131072 := by
  unfold right at h
  exact of_decide_eq_true h
theorem opened_back (l : List UInt8) (h : (opened l).2 = 0) : sealed (opened l).1 = l := by
  unfold opened at h ⊢
  by_cases h4 : l.length < 4
  · rw [if_pos h4] at h; cases h
  · rw [if_neg h4] at h ⊢
    by_cases h2 : sealed (l.take (l.length - 4)) = l
    · rw [if_pos h2]
      exact h2
    · rw [if_neg h2] at h; cases h
theorem readF_put {f : Frm} (h : right f = true) (r : List UInt8) : readF (body f ++ r, 0) = ((r, 0), f) := by
  obtain ⟨h1, h2, h3⟩ := right_spec h
  obtain ⟨k, b, n, d⟩ := f
  simp only at h1 h2 h3
  have hb := b.toNat_lt
  have hn := n.toNat_lt
  have e1 := get_num' (n := k.toNat) (num b.toNat ++ (num n.toNat ++ (text d ++ r))) 255 (by omega) (by omega)
  have e2 := get_num' (n := b.toNat) (num n.toNat ++ (text d ++ r)) most64 (by unfold most64; omega) (by omega)
  have e3 := get_num' (n := n.toNat) (text d ++ r) most64 (by unfold most64; omega) (by omega)
  have e4 := getText_text' d r 131072 h3 (by omega)
  unfold readF body
  simp only [List.append_assoc]
  rw [e1]
  simp only
  rw [e2]
  simp only
  rw [e3]
  simp only
  rw [e4]
  simp only [UInt64.ofNat_toNat]
  rw [Int.toNat_of_nonneg h1]
/-- What was put is read as it was. -/
theorem getF_put {f : Frm} (h : right f = true) : getF (putF f) = (f, 0) := by
  have e := readF_put h []
  rw [List.append_nil] at e
  unfold getF putF
  rw [if_pos h, opened_sealed, if_neg (by simp)]
  unfold endF
  rw [e, if_neg (by simp [ended])]
/-- Bytes that are read are those of the frame alone. -/
theorem getF_back (l : List UInt8) (h : (getF l).2 = 0) : right (getF l).1 = true ∧ putF (getF l).1 = l := by
  unfold getF at h ⊢
  by_cases ho : (opened l).2 ≠ 0
  · rw [if_pos ho] at h
    exact absurd h ho
  · rw [if_neg ho] at h ⊢
    have hs := opened_back l (by omega)
    generalize (opened l).1 = s at *
    unfold endF at h ⊢
    by_cases he : ended (readF (s, 0)).1 ≠ 0
    · rw [if_pos he] at h
      exact absurd h he
    · rw [if_neg he]
      obtain ⟨e1, e2⟩ := ended_zero (s := (readF (s, 0)).1) (by omega)
      have e1 : (getText (get (get (get (s, 0) 255).1 most64).1 most64).1 131072).1.2 = 0 := e1
      have e2 : (getText (get (get (get (s, 0) 255).1 most64).1 most64).1 131072).1.1 = [] := e2
      have hk := get_le (s, 0) 255
      have a1 : (get (s, 0) 255).1.2 = 0 := by
        by_cases h1 : (get (s, 0) 255).1.2 = 0
        · exact h1
        · rw [get_stuck h1, get_stuck h1, getText_stuck h1] at e1; exact e1
      have b1 := get_back s 255 a1
      show right ⟨((get (s, 0) 255).2 : Int), UInt64.ofNat (get (get (s, 0) 255).1 most64).2, UInt64.ofNat (get (get (get (s, 0) 255).1 most64).1 most64).2, (getText (get (get (get (s, 0) 255).1 most64).1 most64).1 131072).2⟩ = true ∧ putF ⟨((get (s, 0) 255).2 : Int), UInt64.ofNat (get (get (s, 0) 255).1 most64).2, UInt64.ofNat (get (get (get (s, 0) 255).1 most64).1 most64).2, (getText (get (get (get (s, 0) 255).1 most64).1 most64).1 131072).2⟩ = l
      generalize get (s, 0) 255 = q1 at *
      obtain ⟨⟨s1, z1⟩, k⟩ := q1
      obtain rfl : z1 = 0 := a1
      simp only at e1 e2 b1 hk ⊢
      have hb := get_le (s1, 0) most64
      have a2 : (get (s1, 0) most64).1.2 = 0 := by
        by_cases h1 : (get (s1, 0) most64).1.2 = 0
        · exact h1
        · rw [get_stuck h1, getText_stuck h1] at e1; exact e1
      have b2 := get_back s1 most64 a2
      generalize get (s1, 0) most64 = q2 at *
      obtain ⟨⟨s2, z2⟩, b⟩ := q2
      obtain rfl : z2 = 0 := a2
      simp only at e1 e2 b2 hb ⊢
      have hn := get_le (s2, 0) most64
      have a3 : (get (s2, 0) most64).1.2 = 0 := by
        by_cases h1 : (get (s2, 0) most64).1.2 = 0
        · exact h1
        · rw [getText_stuck h1] at e1; exact e1
      have b3 := get_back s2 most64 a3
      generalize get (s2, 0) most64 = q3 at *
      obtain ⟨⟨s3, z3⟩, n⟩ := q3
      obtain rfl : z3 = 0 := a3
      simp only at e1 e2 b3 hn ⊢
      obtain ⟨b4, hd⟩ := getText_back s3 131072 e1
      rw [e2, List.append_nil] at b4
      generalize (getText (s3, 0) 131072).2 = d at *
      unfold most64 at hb hn
      have wb : (UInt64.ofNat b).toNat = b := by rw [UInt64.toNat_ofNat']; omega
      have wn : (UInt64.ofNat n).toNat = n := by rw [UInt64.toNat_ofNat']; omega
      have hr : right ⟨(k : Int), UInt64.ofNat b, UInt64.ofNat n, d⟩ = true := by
        unfold right
        exact decide_eq_true ⟨by simp, by simp only; omega, hd⟩
      refine ⟨hr, ?_⟩
      unfold putF
      rw [if_pos hr]
      have : body ⟨(k : Int), UInt64.ofNat b, UInt64.ofNat n, d⟩ = s := by
        unfold body
        simp only [Int.toNat_natCast]
        rw [wb, wn, b1, b2, b3, b4]
        simp only [List.append_assoc]
      rw [this]
      exact hs
theorem body_le {f : Frm} (h : right f = true) : (body f).length ≤ 131072 + 40 := by
  obtain ⟨h1, h2, h3⟩ := right_spec h
  unfold body text
  have a1 : (num f.k.toNat).length ≤ 10 := num_length 9 _ (Nat.lt_of_lt_of_le (show f.k.toNat < 256 by omega) (by decide))
  have a2 : (num f.b.toNat).length ≤ 10 := num_length 9 _ (Nat.lt_of_lt_of_le f.b.toNat_lt (by decide))
  have a3 : (num f.n.toNat).length ≤ 10 := num_length 9 _ (Nat.lt_of_lt_of_le f.n.toNat_lt (by decide))
  have a4 : (num f.d.length).length ≤ 10 := num_length 9 _ (Nat.lt_of_lt_of_le (show f.d.length < 131073 by omega) (by decide))
  simp only [List.length_append]
  omega
end Fm
end Go.Proofs.YtgkcbhijkcbjkaaDoor
