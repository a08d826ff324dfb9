/- The document's tokens, on lists: plain definitions, and the laws on them. No program. No condition. -/
import Derived.Test.YtgnogoghfendpaaVintSpec
set_option linter.unusedVariables false
set_option linter.unusedSimpArgs false
namespace Go.Proofs.Ytgnogoghfendpaa
namespace Tk
structure Tok where
  f : Int
  m : Int
  d : List UInt8
deriving DecidableEq, Inhabited
def right (t : Tok) : Bool :=
  decide (0 ≤ t.f ∧ 0 ≤ t.m ∧ t.f ≤ 4097 ∧ t.f + t.m ≤ 4097) && (if 0 < t.m then t.d.isEmpty else decide (t.f = 0) && !t.d.isEmpty && decide (t.d.length ≤ 16384))
/-- Two that become one. -/
def two (a b : Tok) : Option Tok :=
  if a.m = 0 ∧ b.m = 0 ∧ a.d.length + b.d.length ≤ 16384 then some ⟨0, 0, a.d ++ b.d⟩
  else if 0 < a.m ∧ 0 < b.m ∧ a.f + a.m = b.f then some ⟨a.f, a.m + b.m, []⟩ else none
def push (out : List Tok) (t : Tok) : List Tok :=
  match out.getLast? with
  | none => [t]
  | some a => match two a t with
    | some b => out.dropLast ++ [b]
    | none => out ++ [t]
def step (out : List Tok) (t : Tok) : List Tok := if right t then push out t else out
def join (l : List Tok) : List Tok := l.foldl step []
def bytes (l : List Tok) : Nat := (l.map fun t => if right t then t.d.length else 0).sum
def tokB (t : Tok) : List UInt8 := Vint.num t.m.toNat ++ if 0 < t.m then Vint.num t.f.toNat else Vint.text t.d
def putB (l : List Tok) : List UInt8 := if l.all right then l.flatMap tokB else []

theorem right_spec {t : Tok} (h : right t = true) : 0 ≤ t.f ∧ 0 ≤ t.m ∧ t.f ≤ 4097 ∧ t.f + t.m ≤ 4097 ∧ ((0 < t.m ∧ t.d = []) ∨ (t.m = 0 ∧ t.f = 0 ∧ t.d ≠ [] ∧ t.d.length ≤ 16384)) := by
  unfold right at h
  simp only [Bool.and_eq_true, decide_eq_true_eq] at h
  obtain ⟨⟨h1, h2, h3, h4⟩, h5⟩ := h
  refine ⟨h1, h2, h3, h4, ?_⟩
  by_cases hm : 0 < t.m
  · rw [if_pos hm] at h5
    exact .inl ⟨hm, List.isEmpty_iff.1 h5⟩
  · rw [if_neg hm] at h5
    simp only [Bool.and_eq_true, decide_eq_true_eq, Bool.not_eq_true'] at h5
    refine .inr ⟨by omega, h5.1.1, ?_, h5.2⟩
    intro e
    rw [e] at h5
    simp at h5
theorem right_mk {t : Tok} (h1 : 0 ≤ t.f) (h2 : 0 ≤ t.m) (h3 : t.f ≤ 4097) (h4 : t.f + t.m ≤ 4097) (h5 : (0 < t.m ∧ t.d = []) ∨ (t.m = 0 ∧ t.f = 0 ∧ t.d ≠ [] ∧ t.d.length ≤ 16384)) : right t = true := by
  unfold right
  rcases h5 with ⟨hm, hd⟩ | ⟨hm, hf, hd, hl⟩
  · rw [if_pos hm, hd]
    simp [h1, h2, h3, h4]
  · rw [if_neg (by omega)]
    have : t.d.isEmpty = false := by cases hx : t.d with
      | nil => exact absurd hx hd
      | cons a b => rfl
    simp [h1, h2, h3, h4, hf, this, hl]
    omega
theorem two_right {a b c : Tok} (ha : right a = true) (hb : right b = true) (h : two a b = some c) : right c = true := by
  have sa := right_spec ha
  have sb := right_spec hb
  unfold two at h
  split at h
  · rename_i hc
    cases h
    obtain ⟨_, _, _, _, (⟨h6, _⟩ | ⟨_, _, h7, _⟩)⟩ := sa
    · omega
    · refine right_mk (by simp) (by simp) (by simp) (by simp) (.inr ⟨rfl, rfl, ?_, ?_⟩)
      · show a.d ++ b.d ≠ []
        intro e
        exact h7 (List.append_eq_nil_iff.1 e).1
      · show (a.d ++ b.d).length ≤ 16384
        rw [List.length_append]
        exact hc.2.2
  · split at h
    · rename_i hc
      cases h
      refine right_mk ?_ ?_ ?_ ?_ (.inl ⟨?_, rfl⟩) <;> simp only [] <;> omega
    · cases h
theorem two_bytes {a b c : Tok} (ha : right a = true) (hb : right b = true) (h : two a b = some c) : c.d.length = a.d.length + b.d.length := by
  have sa := right_spec ha
  have sb := right_spec hb
  unfold two at h
  split at h
  · cases h
    simp
  · split at h
    · rename_i hc
      cases h
      obtain ⟨_, _, _, _, (⟨_, h6⟩ | ⟨h6, _⟩)⟩ := sa
      · obtain ⟨_, _, _, _, (⟨_, h7⟩ | ⟨h7, _⟩)⟩ := sb
        · rw [h6, h7]; rfl
        · omega
      · omega
    · cases h
theorem step_bad {out : List Tok} {t : Tok} (h : right t = false) : step out t = out := by unfold step; rw [h]; rfl
theorem step_good {out : List Tok} {t : Tok} (h : right t = true) : step out t = push out t := by unfold step; rw [if_pos h]
theorem push_nil (t : Tok) : push [] t = [t] := rfl
theorem push_last (o : List Tok) (a t : Tok) : push (o ++ [a]) t = match two a t with | some b => o ++ [b] | none => o ++ [a] ++ [t] := by
  unfold push
  rw [List.getLast?_append, List.getLast?_singleton]
  simp only [Option.some_or, List.dropLast_concat]
theorem snoc_or (l : List Tok) : l = [] ∨ ∃ o a, l = o ++ [a] := by
  rcases List.eq_nil_or_concat l with h | ⟨o, a, h⟩
  · exact .inl h
  · exact .inr ⟨o, a, by rw [h, List.concat_eq_append]⟩
theorem step_all {out : List Tok} {t : Tok} (h : ∀ x ∈ out, right x = true) : ∀ x ∈ step out t, right x = true := by
  cases ht : right t
  · rw [step_bad ht]; exact h
  · rw [step_good ht]
    rcases snoc_or out with rfl | ⟨o, a, rfl⟩
    · rw [push_nil]; simpa using ht
    · rw [push_last]
      have ha : right a = true := h a (by simp)
      cases h2 : two a t with
      | none =>
        simp only
        intro x hx
        rcases List.mem_append.1 hx with hx | hx
        · exact h x hx
        · simp at hx; rw [hx]; exact ht
      | some b =>
        simp only
        intro x hx
        rcases List.mem_append.1 hx with hx | hx
        · exact h x (List.mem_append_left _ hx)
        · simp at hx; rw [hx]; exact two_right ha ht h2
theorem fold_all (l : List Tok) : ∀ out, (∀ x ∈ out, right x = true) → ∀ x ∈ l.foldl step out, right x = true := by
  induction l with
  | nil => exact fun _ h => h
  | cons t l ih => exact fun out h => ih _ (step_all h)
theorem join_all (l : List Tok) : ∀ x ∈ join l, right x = true := fold_all l [] (by simp)
/-! ### how many literal bytes -/
theorem bytes_append (a b : List Tok) : bytes (a ++ b) = bytes a + bytes b := by simp [bytes]
theorem bytes_one (t : Tok) : bytes [t] = if right t then t.d.length else 0 := by simp [bytes]
theorem bytes_step (out : List Tok) (t : Tok) (h : ∀ x ∈ out, right x = true) : bytes (step out t) = bytes out + bytes [t] := by
  cases ht : right t
  · rw [step_bad ht, bytes_one, ht]; simp
  · rw [step_good ht]
    rcases snoc_or out with rfl | ⟨o, a, rfl⟩
    · rw [push_nil]; simp [bytes]
    · rw [push_last]
      have ha : right a = true := h a (by simp)
      cases h2 : two a t with
      | none => simp only [bytes_append]
      | some b =>
        simp only [bytes_append, bytes_one, ha, ht, two_right ha ht h2, if_true]
        rw [two_bytes ha ht h2]
        omega
theorem bytes_fold (l : List Tok) : ∀ out, (∀ x ∈ out, right x = true) → bytes (l.foldl step out) = bytes out + bytes l := by
  induction l with
  | nil => intro out _; simp [bytes]
  | cons t l ih =>
    intro out h
    rw [List.foldl_cons, ih _ (step_all h), bytes_step out t h, show t :: l = [t] ++ l from rfl, bytes_append]
    omega
theorem bytes_join (l : List Tok) : bytes (join l) = bytes l := by unfold join; rw [bytes_fold l [] (by simp)]; simp [bytes]
/-! ### part by part -/
theorem two_assoc {y x t xt yx : Tok} (hy : right y = true) (hx : right x = true) (ht : right t = true) (h1 : two x t = some xt) (h2 : two y x = some yx) (hb : y.d.length + x.d.length + t.d.length ≤ 16384) :
    ∃ z, two yx t = some z ∧ two y xt = some z := by
  unfold two at h1 h2 ⊢
  split at h1
  · rename_i c1
    cases h1
    split at h2
    · rename_i c2
      cases h2
      refine ⟨⟨0, 0, y.d ++ x.d ++ t.d⟩, ?_, ?_⟩
      · rw [if_pos ⟨rfl, c1.2.1, by simp; omega⟩]
      · rw [if_pos ⟨c2.1, rfl, by simp; omega⟩, List.append_assoc]
    · split at h2
      · omega
      · cases h2
  · split at h1
    · rename_i c1 c1'
      cases h1
      split at h2
      · omega
      · split at h2
        · rename_i c2 c2'
          cases h2
          refine ⟨⟨y.f, y.m + x.m + t.m, []⟩, ?_, ?_⟩
          · rw [if_neg (by simp only []; omega), if_pos (by simp only []; omega)]
          · rw [if_neg (by simp only []; omega), if_pos (by simp only []; omega)]
            simp only [Int.add_assoc]
        · cases h2
    · cases h1
theorem two_none {y x t xt : Tok} (h1 : two x t = some xt) (h2 : two y x = none) (hb : y.d.length + x.d.length + t.d.length ≤ 16384) : two y xt = none := by
  unfold two at h1 h2 ⊢
  split at h2
  · cases h2
  · rename_i c2
    split at h2
    · cases h2
    · rename_i c2'
      split at h1
      · rename_i c1
        cases h1
        rw [if_neg, if_neg]
        · simp only []; omega
        · simp only [List.length_append]; omega
      · split at h1
        · rename_i c1 c1'
          cases h1
          rw [if_neg, if_neg]
          · simp only []; omega
          · simp only []; omega
        · cases h1
theorem bytes_mem {l : List Tok} {o : List Tok} {a : Tok} (h : right a = true) (e : l = o ++ [a]) : bytes l = bytes o + a.d.length := by rw [e, bytes_append, bytes_one, h]; rfl
theorem push_two (O : List Tok) (x t xt : Tok) (hO : ∀ y ∈ O, right y = true) (hx : right x = true) (ht : right t = true) (h1 : two x t = some xt) (hb : bytes O + x.d.length + t.d.length ≤ 16384) :
    push O xt = push (push O x) t := by
  rcases snoc_or O with rfl | ⟨o, y, rfl⟩
  · rw [push_nil, push_nil, show [x] = [] ++ [x] from rfl, push_last, h1]
    rfl
  · have hy : right y = true := hO y (by simp)
    have hb' := bytes_mem hy rfl (l := o ++ [y]) (o := o)
    rw [push_last, push_last]
    cases h2 : two y x with
    | some yx =>
      obtain ⟨z, e1, e2⟩ := two_assoc hy hx ht h1 h2 (by omega)
      simp only
      rw [push_last, e1, e2]
    | none =>
      have e := two_none h1 h2 (by omega)
      rw [e]
      simp only
      rw [push_last, h1]
theorem fold_join (b : List Tok) : ∀ out, (∀ x ∈ out, right x = true) → bytes out + bytes b ≤ 16384 → (join b).foldl step out = b.foldl step out := by
  induction b using (fun {P : List Tok → Prop} (h0 : P []) (h1 : ∀ l c, P l → P (l ++ [c])) (l : List Tok) => (by
    rw [← List.reverse_reverse l]
    induction l.reverse with
    | nil => exact h0
    | cons c l ih => rw [List.reverse_cons]; exact h1 _ _ ih : P l)) with
  | h0 => intro out _ _; rfl
  | h1 b t ih =>
    intro out ho hb
    rw [bytes_append] at hb
    have e : join (b ++ [t]) = step (join b) t := by unfold join; rw [List.foldl_append]; rfl
    rw [e, List.foldl_append, List.foldl_cons, List.foldl_nil, ← ih out ho (by omega)]
    cases ht : right t
    · rw [step_bad ht, step_bad ht]
    · rw [step_good ht, step_good ht]
      rw [bytes_one, ht] at hb
      have hbj := bytes_join b
      have hall := join_all b
      generalize join b = J at *
      rcases snoc_or J with rfl | ⟨J0, x, rfl⟩
      · rw [push_nil, List.foldl_cons, List.foldl_nil, List.foldl_nil, step_good ht]
      · have hx : right x = true := hall x (by simp)
        have hbx := bytes_mem hx rfl (l := J0 ++ [x]) (o := J0)
        rw [push_last]
        cases h1 : two x t with
        | none =>
          simp only
          rw [List.foldl_append, List.foldl_cons, List.foldl_nil, step_good ht]
        | some xt =>
          simp only
          rw [List.foldl_append, List.foldl_append, List.foldl_cons, List.foldl_nil, List.foldl_cons, List.foldl_nil, step_good hx, step_good (two_right hx ht h1)]
          have hf := bytes_fold J0 out ho
          exact push_two _ x t xt (fold_all J0 out ho) hx ht h1 (by simp only [if_true] at hb; omega)
theorem join_join (l : List Tok) (h : bytes l ≤ 16384) : join (join l) = join l := fold_join l [] (by simp) (by simp [bytes] at h ⊢; omega)
theorem join_parts (a b : List Tok) (h : bytes (a ++ b) ≤ 16384) : join (join a ++ join b) = join (a ++ b) := by
  have h' := h
  rw [bytes_append] at h'
  have e : join (join a ++ join b) = (join b).foldl step (join (join a)) := by unfold join; rw [List.foldl_append]
  rw [e, join_join a (by omega), fold_join b (join a) (join_all a) (by rw [bytes_join]; omega)]
  unfold join
  rw [List.foldl_append]
end Tk
end Go.Proofs.Ytgnogoghfendpaa

