/- What was sent, and the turns: one more is noted. No condition. -/
import Derived.Test.YtpkbdodclkgjpaaLnkGood
set_option linter.unusedVariables false
set_option linter.unusedSimpArgs false
namespace Go.Proofs.Ytpkbdodclkgjpaa
open Go Go.RowKit Go.Shelf W
namespace Ln
theorem so_typ {E : TypeId} {size : Nat} {w : World} {base n : Nat} {v : Value} {xs : List Value} (h : OR E size w base v n xs) : ∀ m, v.ownBlock = some m → ∃ cs fr, w.heap[m]? = some (.cells cs E fr) := by
  intro n hn
  rcases h.2 with ⟨hv, _⟩ | ⟨g, cap, cur, hv, _, hh, _⟩
  · rw [hv] at hn; cases hn
  · rw [hv] at hn
    have : g = n := Option.some.inj hn
    subst this
    exact ⟨_, _, hh⟩
/-- All that lies by what one append changes. -/
theorem app_off {E : TypeId} {size base n m : Nat} {w w1 w9 : World} {v v9 : Value} {xs ys : List Value} (o : OR E size w base v n xs) (g1 : Gr w w1) (hb : base ≤ w.heap.size) (k9 : w1.grownBy w9 v.ownBlock) : Off E w w9 ∧ Below base w w9 := by
  have o1 := OR.below o g1
  exact ⟨(Off.of_gr g1).trans (Off.of_grown k9 (so_typ o1)), Below.trans (Below.mono g1 hb) (below_of_grown k9 (Nat.le_trans hb g1.size) (fun n hn => (World.ownsRow.lt o1 n hn).1))⟩
structure Put0 (w w9 : World) (base gs k : Nat) (v9 : Value) (S0 S1 : List (List UInt8)) : Prop where
  off : Off 9 w w9
  blk : ∃ v0 v1, Blk w9 gs 28 #[v0, v1]
  was : ∃ v, w9.cell? ⟨gs, k, none⟩ = some v
  off2 : Off 28 w9 (w9.setCell ⟨gs, k, none⟩ v9)
  bel : Below base w (w9.setCell ⟨gs, k, none⟩ v9)
  sn : ∃ v0 v1, Blk (w9.setCell ⟨gs, k, none⟩ v9) gs 28 #[v0, v1] ∧ SO (w9.setCell ⟨gs, k, none⟩ v9) base v0 S0 ∧ SO (w9.setCell ⟨gs, k, none⟩ v9) base v1 S1 ∧ ∀ n, v0.ownBlock = some n → v1.ownBlock ≠ some n
theorem sn_put0 {w w1 w9 : World} {base gs : Nat} {v0 v1 v9 : Value} {S0 S1 : List (List UInt8)} {s : List UInt8} (hb : Blk w gs 28 #[v0, v1]) (o0 : SO w base v0 S0) (o1 : SO w base v1 S1) (hd : ∀ n, v0.ownBlock = some n → v1.ownBlock ≠ some n) (hbase : base ≤ w.heap.size) (hgs : base ≤ gs) (g1 : Gr w w1)
    (o9 : OR 9 1 w9 base v9 (S0.length + 1) (strs (S0 ++ [s]))) (k9 : w1.grownBy w9 v0.ownBlock) (n9 : v9.ownBlock = v0.ownBlock ∨ v9.ownBlock = some w1.heap.size) : Put0 w w9 base gs 0 v9 (S0 ++ [s]) S1 := by
  obtain ⟨p1, p2⟩ := app_off (n := S0.length) (m := 0) (v9 := v9) (ys := []) o0 g1 hbase k9
  have b9 := p1.blk hb (by decide)
  have kk : Kb gs w9 (w9.setCell ⟨gs, 0, none⟩ v9) := (Kb.refl _ _).set 0 v9
  have f2 : Off 28 w9 (w9.setCell ⟨gs, 0, none⟩ v9) := Off.of_kb kk b9
  refine ⟨p1, ⟨_, _, b9⟩, ⟨_, b9.cell 0⟩, f2, Below.trans p2 (Below.mono (Kb.below kk (Nat.le_of_lt b9.lt)) hgs), v9, v1, b9.set_ 0 v9, ?_, ?_, fun n hn => ?_⟩
  · have := f2.or_ o9 (by decide)
    unfold SO
    rwa [List.length_append]
  · refine f2.or_ (World.ownsRow.kept (OR.below o1 g1) k9 ?_) (by decide)
    cases e : v1.ownBlock with
    | none => exact .inl rfl
    | some m => exact .inr fun e2 => hd m e2.symm e
  · rcases n9 with h | h
    · exact hd n (by rw [← h]; exact hn)
    · rw [h] at hn
      intro e
      have := (World.ownsRow.lt o1 n e).2
      have := g1.size
      have : w1.heap.size = n := Option.some.inj hn
      omega
theorem sn_put1 {w w1 w9 : World} {base gs : Nat} {v0 v1 v9 : Value} {S0 S1 : List (List UInt8)} {s : List UInt8} (hb : Blk w gs 28 #[v0, v1]) (o0 : SO w base v0 S0) (o1 : SO w base v1 S1) (hd : ∀ n, v0.ownBlock = some n → v1.ownBlock ≠ some n) (hbase : base ≤ w.heap.size) (hgs : base ≤ gs) (g1 : Gr w w1)
    (o9 : OR 9 1 w9 base v9 (S1.length + 1) (strs (S1 ++ [s]))) (k9 : w1.grownBy w9 v1.ownBlock) (n9 : v9.ownBlock = v1.ownBlock ∨ v9.ownBlock = some w1.heap.size) : Put0 w w9 base gs 1 v9 S0 (S1 ++ [s]) := by
  obtain ⟨p1, p2⟩ := app_off (n := S1.length) (m := 0) (v9 := v9) (ys := []) o1 g1 hbase k9
  have b9 := p1.blk hb (by decide)
  have kk : Kb gs w9 (w9.setCell ⟨gs, 1, none⟩ v9) := (Kb.refl _ _).set 1 v9
  have f2 : Off 28 w9 (w9.setCell ⟨gs, 1, none⟩ v9) := Off.of_kb kk b9
  refine ⟨p1, ⟨_, _, b9⟩, ⟨_, b9.cell 1⟩, f2, Below.trans p2 (Below.mono (Kb.below kk (Nat.le_of_lt b9.lt)) hgs), v0, v9, b9.set_ 1 v9, ?_, ?_, fun n hn => ?_⟩
  · refine f2.or_ (World.ownsRow.kept (OR.below o0 g1) k9 ?_) (by decide)
    cases e : v0.ownBlock with
    | none => exact .inl rfl
    | some m => exact .inr fun e2 => hd m e e2.symm
  · have := f2.or_ o9 (by decide)
    unfold SO
    rwa [List.length_append]
  · rcases n9 with h | h
    · rw [h]; exact hd n hn
    · rw [h]
      intro e
      have := (World.ownsRow.lt o0 n hn).2
      have := g1.size
      have : w1.heap.size = n := Option.some.inj e
      omega
def selS (k : Nat) (S0 S1 : List (List UInt8)) : List (List UInt8) := if k = 0 then S0 else S1
def addS (i k : Nat) (S : List (List UInt8)) (s : List UInt8) : List (List UInt8) := if k = i then S ++ [s] else S
theorem sn_put {w : World} {base gs : Nat} {v0 v1 : Value} {S0 S1 : List (List UInt8)} (s : List UInt8) (k : Nat) (hk : k < 2) (hb : Blk w gs 28 #[v0, v1]) (o0 : SO w base v0 S0) (o1 : SO w base v1 S1) (hd : ∀ n, v0.ownBlock = some n → v1.ownBlock ≠ some n) (hbase : base ≤ w.heap.size) (hgs : base ≤ gs) :
    ∃ A c, (#[v0, v1] : Array Value)[k]? = some (.slice A (selS k S0 S1).length c) ∧ SO w base (.slice A (selS k S0 S1).length c) (selS k S0 S1) ∧ (selS k S0 S1).length ≤ c ∧ c ≤ maxLen ∧
      ∀ w1 w9 v9, Gr w w1 → OR 9 1 w9 base v9 ((selS k S0 S1).length + 1) (strs (selS k S0 S1 ++ [s])) → w1.grownBy w9 (Value.slice A (selS k S0 S1).length c).ownBlock → (v9.ownBlock = (Value.slice A (selS k S0 S1).length c).ownBlock ∨ v9.ownBlock = some w1.heap.size) →
        Put0 w w9 base gs k v9 (addS 0 k S0 s) (addS 1 k S1 s) := by
  rcases (show k = 0 ∨ k = 1 by omega) with rfl | rfl
  · obtain ⟨A, c, rfl, h1, h2⟩ := OR.shape o0
    exact ⟨A, c, rfl, o0, h1, h2, fun w1 w9 v9 g1 o9 k9 n9 => sn_put0 hb o0 o1 hd hbase hgs g1 o9 k9 n9⟩
  · obtain ⟨A, c, rfl, h1, h2⟩ := OR.shape o1
    exact ⟨A, c, rfl, o1, h1, h2, fun w1 w9 v9 g1 o9 k9 n9 => sn_put1 hb o0 o1 hd hbase hgs g1 o9 k9 n9⟩
theorem selS_len {k j : Nat} {S0 S1 : List (List UInt8)} (h0 : S0.length ≤ j) (h1 : S1.length ≤ j) : (selS k S0 S1).length ≤ j := by unfold selS; split <;> assumption
theorem addS_len {i k j : Nat} {S : List (List UInt8)} {s : List UInt8} (h : S.length ≤ j) : (addS i k S s).length ≤ j + 1 := by
  unfold addS
  split
  · rw [List.length_append, List.length_singleton]; omega
  · omega
theorem addS_p {i k : Nat} {S : List (List UInt8)} {s : List UInt8} (h : ∀ x ∈ S, x.length ≤ 100) (hs : s.length ≤ 100) : ∀ x ∈ addS i k S s, x.length ≤ 100 := fun x hx => by
  unfold addS at hx
  split at hx
  · rcases List.mem_append.1 hx with h' | h'
    · exact h x h'
    · obtain rfl := List.mem_singleton.1 h'; exact hs
  · exact h x hx
theorem sent_add0 (S : List (List UInt8)) (c : Ac) (k : Nat) (h : c.k = 0) (hk : c.w = (k : Int)) : sent S c 0 = addS 0 k S c.b := by
  unfold sent addS
  by_cases e : k = 0
  · rw [if_pos ⟨h, by omega⟩, if_pos e]
  · rw [if_neg (by omega), if_neg e]
theorem sent_add1 (S : List (List UInt8)) (c : Ac) (k : Nat) (h : c.k = 0) (hk : c.w = (k : Int)) : sent S c 1 = addS 1 k S c.b := by
  unfold sent addS
  by_cases e : k = 1
  · rw [if_pos ⟨h, by omega⟩, if_pos e]
  · rw [if_neg (by omega), if_neg e]
theorem sent_same (S : List (List UInt8)) (c : Ac) (i : Int) (h : c.k ≠ 0 ∨ c.w ≠ i) : sent S c i = S := by
  unfold sent
  rw [if_neg (by omega)]
theorem trns_same (T : List Ac) (c : Ac) (h : 0 ≤ c.k) (h2 : c.k ≤ 3) : trns T c = T := by
  unfold trns
  rw [if_neg (by omega)]
theorem trns_add (T : List Ac) (c : Ac) (h : c.k < 0 ∨ 3 < c.k) : trns T c = T ++ [c] := by
  unfold trns
  rw [if_pos h]
theorem told_k {S0 S1 : List (List UInt8)} {T : List Ac} {a b : Way} {c : Ac} (hk : c.k = 1) (h0 : ∀ q ∈ a.l, Good S0 T q) (h1 : ∀ q ∈ b.l, Good S1 T q) (ho : (doP a b c).2.2.2 = true) :
    ∃ k : Nat, k < 2 ∧ c.w = (k : Int) ∧ fnd (selS k S0 S1) T (doP a b c).2.2.1 = true := by
  unfold doP at ho ⊢
  by_cases w0 : c.w = 0
  · rw [if_pos w0] at ho ⊢
    exact ⟨0, by omega, w0, fnd_of (told_good hk h0 ho)⟩
  · by_cases w1 : c.w = 1
    · rw [if_neg w0, if_pos w1] at ho ⊢
      exact ⟨1, by omega, w1, fnd_of (told_good hk h1 ho)⟩
    · rw [if_neg w0, if_neg w1] at ho
      cases ho
/-- Is it one text, or turned from it by one of the first t turns? -/
def ins (x s : List UInt8) (T : List Ac) (t : Nat) : Bool := x == s || (T.take t).any fun c => Crc.turned x c.t c.m == s
theorem ins_zero (x s : List UInt8) (T : List Ac) : ins x s T 0 = (x == s) := by simp [ins]
theorem ins_snoc (x s : List UInt8) (T : List Ac) (t : Nat) (h : t < T.length) : ins x s T (t + 1) = (ins x s T t || Crc.turned x T[t].t T[t].m == s) := by
  unfold ins
  rw [List.take_succ_eq_append_getElem h, List.any_append, Bool.or_assoc]
  simp
theorem fnd_zero (S : List (List UInt8)) (T : List Ac) (s : List UInt8) : fnd (S.take 0) T s = false := by simp [fnd]
theorem fnd_snoc (S : List (List UInt8)) (T : List Ac) (s : List UInt8) (K : Nat) (h : K < S.length) : fnd (S.take (K + 1)) T s = (fnd (S.take K) T s || ins S[K] s T T.length) := by
  unfold fnd ins
  rw [List.take_succ_eq_append_getElem h, List.any_append, List.take_length]
  simp
end Ln
end Go.Proofs.Ytpkbdodclkgjpaa

