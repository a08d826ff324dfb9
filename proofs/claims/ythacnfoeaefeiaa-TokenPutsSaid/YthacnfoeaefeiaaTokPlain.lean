/- Tokens, put and read: plain definitions and laws. No program. No condition. -/
import Derived.Test.YthacnfoeaefeiaaVintPlain
import Derived.Test.YthacnfoeaefeiaaTokSpec
set_option linter.unusedVariables false
set_option linter.unusedSimpArgs false
namespace Go.Proofs.Ythacnfoeaefeiaa
open Vint
namespace Tk
/-- One token, read. -/
def oneT (s : RS) : RS × Tok :=
  if 0 < (get s 4097).2 then ((get (get s 4097).1 4097).1, ⟨((get (get s 4097).1 4097).2 : Int), ((get s 4097).2 : Int), []⟩)
  else ((getText (get s 4097).1 16384).1, ⟨0, 0, (getText (get s 4097).1 16384).2⟩)
/-- Tokens, read: those ahead, what is left; no more than n of them. -/
def getsF : Nat → RS → List Tok → List Tok × Nat
  | 0, _, out => (out, 0)
  | n + 1, s, out => if s.1.length = 0 then (out, 0) else if (oneT s).1.2 ≠ 0 then ([], (oneT s).1.2) else if right (oneT s).2 then getsF n (oneT s).1 (out ++ [(oneT s).2]) else ([], 3)
def gets (l : List UInt8) : List Tok × Nat := getsF (l.length + 1) (l, 0) []
theorem oneT_bounds (s : RS) : 0 ≤ (oneT s).2.f ∧ (oneT s).2.f ≤ 4097 ∧ 0 ≤ (oneT s).2.m ∧ (oneT s).2.m ≤ 4097 ∧ (oneT s).2.d.length ≤ 16384 ∧ (oneT s).1.1.length ≤ s.1.length := by
  have h1 := get_le s 4097
  have h2 := get_le (get s 4097).1 4097
  have h3 := getText_short (get s 4097).1 16384
  have h4 : (get s 4097).1.1.length ≤ s.1.length := by
    by_cases h : s.2 = 0
    · by_cases h2 : (get s 4097).1.2 = 0
      · obtain ⟨l, e⟩ := s
        obtain rfl : e = 0 := h
        exact Nat.le_of_lt (get_less l 4097 h2)
      · rw [(get_stops h h2).1]; simp
    · rw [get_stuck h]; exact Nat.le_refl _
  have h5 : (get (get s 4097).1 4097).1.1.length ≤ (get s 4097).1.1.length := by
    by_cases h : (get s 4097).1.2 = 0
    · by_cases h2 : (get (get s 4097).1 4097).1.2 = 0
      · generalize get s 4097 = q at *
        obtain ⟨⟨l, e⟩, n⟩ := q
        obtain rfl : e = 0 := h
        exact Nat.le_of_lt (get_less l 4097 h2)
      · rw [(get_stops h h2).1]; simp
    · rw [get_stuck h]; exact Nat.le_refl _
  unfold oneT
  split
  · refine ⟨by simp only []; omega, by simp only []; omega, by simp only []; omega, by simp only []; omega, by simp, by simp only []; omega⟩
  · refine ⟨by simp, by simp, by simp, by simp, by simp only []; omega, by simp only []; omega⟩
/-- What stands for a right token is read as it. -/
theorem oneT_put {t : Tok} (h : right t = true) (r : List UInt8) : oneT (tokB t ++ r, 0) = ((r, 0), t) := by
  obtain ⟨h1, h2, h3, h4, h5⟩ := right_spec h
  obtain ⟨f, m, d⟩ := t
  simp only at h1 h2 h3 h4 h5
  unfold tokB
  simp only []
  rcases h5 with ⟨hm, hd⟩ | ⟨hm, hf, hd, hl⟩
  · subst hd
    rw [if_pos hm, List.append_assoc]
    have e1 := get_num' (n := m.toNat) (num f.toNat ++ r) 4097 (by omega) (by omega)
    have e2 := get_num' (n := f.toNat) r 4097 (by omega) (by omega)
    unfold oneT
    rw [e1]
    rw [if_pos (show 0 < m.toNat by omega), e2]
    refine Prod.ext rfl ?_
    show (⟨(f.toNat : Int), (m.toNat : Int), []⟩ : Tok) = ⟨f, m, []⟩
    rw [Int.toNat_of_nonneg h1, Int.toNat_of_nonneg h2]
  · subst hm hf
    rw [if_neg (by omega), List.append_assoc]
    have e1 := get_num' (n := (0 : Int).toNat) (text d ++ r) 4097 (by simp) (by simp)
    have e2 := getText_text' d r 16384 hl (by omega)
    unfold oneT
    rw [e1]
    rw [if_neg (by simp), e2]
/-- What is read as a right token stands for it. -/
theorem oneT_back (l : List UInt8) (h : (oneT (l, 0)).1.2 = 0) (hr : right (oneT (l, 0)).2 = true) : l = tokB (oneT (l, 0)).2 ++ (oneT (l, 0)).1.1 := by
  by_cases hm : 0 < (get (l, 0) 4097).2
  · have e : oneT (l, 0) = ((get (get (l, 0) 4097).1 4097).1, ⟨((get (get (l, 0) 4097).1 4097).2 : Int), ((get (l, 0) 4097).2 : Int), []⟩) := by unfold oneT; rw [if_pos hm]
    rw [e] at h ⊢
    have h1 : (get (l, 0) 4097).1.2 = 0 := by
      by_cases h1 : (get (l, 0) 4097).1.2 = 0
      · exact h1
      · rw [(get_stops (s := (l, 0)) rfl h1).2] at hm; omega
    have b1 := get_back l 4097 h1
    generalize hq : get (l, 0) 4097 = q at *
    obtain ⟨⟨l1, er⟩, n⟩ := q
    obtain rfl : er = 0 := h1
    have b2 := get_back l1 4097 h
    unfold tokB
    simp only []
    rw [if_pos (by simpa using hm), List.append_assoc]
    simp only [Int.toNat_natCast]
    rw [← b2]
    exact b1
  · have e : oneT (l, 0) = ((getText (get (l, 0) 4097).1 16384).1, ⟨0, 0, (getText (get (l, 0) 4097).1 16384).2⟩) := by unfold oneT; rw [if_neg hm]
    rw [e] at h hr ⊢
    have h1 : (get (l, 0) 4097).1.2 = 0 := by
      by_cases h1 : (get (l, 0) 4097).1.2 = 0
      · exact h1
      · rw [getText_stuck h1] at h; exact h
    have b1 := get_back l 4097 h1
    generalize hq : get (l, 0) 4097 = q at *
    obtain ⟨⟨l1, er⟩, n⟩ := q
    obtain rfl : er = 0 := h1
    have b2 := (getText_back l1 16384 h).1
    unfold tokB
    simp only []
    rw [if_neg (by omega), List.append_assoc, ← b2]
    have : n = 0 := by simp only at hm; omega
    subst this
    exact b1
theorem oneT_less (l : List UInt8) (h : (oneT (l, 0)).1.2 = 0) : (oneT (l, 0)).1.1.length < l.length := by
  have h1 : (get (l, 0) 4097).1.2 = 0 := by
    by_cases h1 : (get (l, 0) 4097).1.2 = 0
    · exact h1
    · exfalso
      unfold oneT at h
      rw [(get_stops (s := (l, 0)) rfl h1).2, if_neg (by omega), getText_stuck h1] at h
      exact h1 h
  have b1 := get_less l 4097 h1
  unfold oneT at h ⊢
  by_cases hm : 0 < (get (l, 0) 4097).2
  · rw [if_pos hm] at h ⊢
    generalize hq : get (l, 0) 4097 = q at *
    obtain ⟨⟨l1, er⟩, n⟩ := q
    obtain rfl : er = 0 := h1
    have := get_less l1 4097 h
    simp only at this b1 ⊢
    omega
  · rw [if_neg hm] at h ⊢
    have := (getText_short (get (l, 0) 4097).1 16384).2.1
    simp only at this b1 ⊢
    omega
/-- An error leaves nothing to be read. -/
theorem oneT_stops (l : List UInt8) (h : (oneT (l, 0)).1.2 ≠ 0) : (oneT (l, 0)).1.1 = [] := by
  unfold oneT at h ⊢
  by_cases hm : 0 < (get (l, 0) 4097).2
  · rw [if_pos hm] at h ⊢
    have h1 : (get (l, 0) 4097).1.2 = 0 := by
      by_cases h1 : (get (l, 0) 4097).1.2 = 0
      · exact h1
      · rw [(get_stops (s := (l, 0)) rfl h1).2] at hm; omega
    exact (get_stops h1 h).1
  · rw [if_neg hm] at h ⊢
    by_cases h1 : (get (l, 0) 4097).1.2 = 0
    · exact (getText_stops h1 h).1
    · rw [getText_stuck h1]
      exact (get_stops (s := (l, 0)) rfl h1).1
theorem getsF_put (l : List Tok) (h : ∀ t ∈ l, right t = true) : ∀ (n : Nat) (out : List Tok), l.length < n → getsF n (l.flatMap tokB, 0) out = (out ++ l, 0) := by
  induction l with
  | nil =>
    intro n out hn
    cases n with
    | zero => simp at hn
    | succ n => simp [getsF]
  | cons t l ih =>
    intro n out hn
    cases n with
    | zero => simp at hn
    | succ n =>
      have ht := h t (by simp)
      have e := oneT_put ht (l.flatMap tokB)
      have hp : (tokB t).length ≠ 0 := by
        unfold tokB
        rw [List.length_append]
        have := num_pos t.m.toNat
        omega
      unfold getsF
      rw [List.flatMap_cons, if_neg (by simp only [List.length_append]; omega), e, if_neg (by simp), if_pos ht, ih (fun x hx => h x (by simp [hx])) n _ (by simpa using hn)]
      simp
theorem gets_put {l : List Tok} (h : l.all right = true) : gets (putB l) = (l, 0) := by
  have h' : ∀ t ∈ l, right t = true := List.all_eq_true.1 h
  unfold gets putB
  rw [if_pos h]
  have hlen : l.length ≤ (l.flatMap tokB).length := by
    clear h h'
    induction l with
    | nil => simp
    | cons t l ih =>
      rw [List.flatMap_cons, List.length_append, List.length_cons]
      have : 0 < (tokB t).length := by
        unfold tokB
        rw [List.length_append]
        have := num_pos t.m.toNat
        omega
      omega
  simpa using getsF_put l h' ((l.flatMap tokB).length + 1) [] (by omega)
theorem getsF_back : ∀ (n : Nat) (l : List UInt8) (out : List Tok), l.length < n → (getsF n (l, 0) out).2 = 0 → ∃ L, (getsF n (l, 0) out).1 = out ++ L ∧ (∀ t ∈ L, right t = true) ∧ l = L.flatMap tokB := by
  intro n
  induction n with
  | zero => intro l out h; omega
  | succ n ih =>
    intro l out hn h
    unfold getsF at h ⊢
    by_cases h0 : l.length = 0
    · rw [if_pos h0]
      exact ⟨[], by simp, by simp, by simpa using h0⟩
    · rw [if_neg h0] at h ⊢
      by_cases he : (oneT (l, 0)).1.2 ≠ 0
      · rw [if_pos he] at h
        exact absurd h he
      · rw [if_neg he] at h ⊢
        by_cases hr : right (oneT (l, 0)).2 = true
        · rw [if_pos hr] at h ⊢
          have he' : (oneT (l, 0)).1.2 = 0 := by omega
          have hb := oneT_back l he' hr
          have hl := oneT_less l he'
          generalize oneT (l, 0) = q at *
          obtain ⟨⟨l1, er⟩, t⟩ := q
          obtain rfl : er = 0 := he'
          obtain ⟨L, e1, e2, e3⟩ := ih l1 (out ++ [t]) (by simp only at hl; omega) h
          refine ⟨t :: L, by rw [e1]; simp, fun x hx => ?_, ?_⟩
          · rcases List.mem_cons.1 hx with rfl | hx
            · exact hr
            · exact e2 x hx
          · rw [List.flatMap_cons, ← e3]
            exact hb
        · rw [if_neg hr] at h; cases h
/-- Those bytes that are tokens are theirs alone. -/
theorem gets_back (l : List UInt8) (h : (gets l).2 = 0) : putB (gets l).1 = l := by
  obtain ⟨L, e1, e2, e3⟩ := getsF_back (l.length + 1) l [] (by omega) h
  unfold gets
  rw [e1, List.nil_append]
  unfold putB
  rw [if_pos (List.all_eq_true.2 e2)]
  exact e3.symm
theorem getsF_len : ∀ (n : Nat) (s : RS) (out : List Tok), (getsF n s out).1.length ≤ out.length + n := by
  intro n
  induction n with
  | zero => intro s out; simp [getsF]
  | succ n ih =>
    intro s out
    unfold getsF
    split
    · simp
    · split
      · simp
      · split
        · have := ih (oneT s).1 (out ++ [(oneT s).2])
          rw [List.length_append, List.length_singleton] at this
          omega
        · simp
theorem getsF_right : ∀ (n : Nat) (s : RS) (out : List Tok), (∀ t ∈ out, right t = true) → ∀ t ∈ (getsF n s out).1, right t = true := by
  intro n
  induction n with
  | zero => intro s out h; simpa [getsF] using h
  | succ n ih =>
    intro s out h
    unfold getsF
    split
    · exact h
    · split
      · simp
      · split
        · rename_i hr
          refine ih _ _ fun t ht => ?_
          rcases List.mem_append.1 ht with ht | ht
          · exact h t ht
          · simp at ht; rw [ht]; exact hr
        · simp
end Tk
end Go.Proofs.Ythacnfoeaefeiaa
