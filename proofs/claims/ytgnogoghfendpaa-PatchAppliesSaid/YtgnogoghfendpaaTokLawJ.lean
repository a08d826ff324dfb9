/- The walk of TokenJoins. No condition but that numbers lie in their ranges. -/
import Derived.Test.YtgnogoghfendpaaTokAwake
set_option linter.unusedVariables false
set_option linter.unusedSimpArgs false
namespace Go.Proofs.Ytgnogoghfendpaa
open Go Go.RowKit W
namespace Tk
theorem tcs_takeN (l : List Tok) : ∀ k, tcs (l.take k) = (tcs l).take (k * 3) := by
  induction l with
  | nil => intro k; simp [tcs]
  | cons t l ih =>
    intro k
    cases k with
    | zero => simp [tcs]
    | succ k =>
      rw [List.take_succ_cons, show t :: l.take k = [t] ++ l.take k from rfl, show t :: l = [t] ++ l from rfl, tcs_append, tcs_append, ih, tcs_one, Nat.succ_mul, Nat.add_comm, List.take_append, tc_len, List.take_of_length_le (l := tc t) (by rw [tc_len]; omega), show 3 + k * 3 - 3 = k * 3 by omega]
theorem tcs_dropN (l : List Tok) : ∀ k, tcs (l.drop k) = (tcs l).drop (k * 3) := by
  induction l with
  | nil => intro k; simp [tcs]
  | cons t l ih =>
    intro k
    cases k with
    | zero => simp [tcs]
    | succ k =>
      rw [List.drop_succ_cons, show t :: l = [t] ++ l from rfl, tcs_append, ih, tcs_one, Nat.succ_mul, Nat.add_comm, List.drop_append, tc_len, List.drop_eq_nil_of_le (show (tc t).length ≤ 3 + k * 3 by rw [tc_len]; omega), List.nil_append, show 3 + k * 3 - 3 = k * 3 by omega]
theorem TR.take {w : World} {B : Nat} {A : Option Addr} {l : List Tok} (h : TR w B A l) {k : Nat} (hk : k ≤ l.length) : TR w B A (l.take k) := by
  unfold TR
  rw [List.length_take_of_le hk, tcs_takeN]
  exact Reads.take h hk
theorem TR.drop {w : World} {B c : Nat} {A : Option Addr} {l : List Tok} (h : TR w B A l) {k : Nat} (hk : k ≤ l.length) (hc : l.length ≤ c) : TR w B (if c = k then A else A.map (·.add (k * 3))) (l.drop k) := by
  unfold TR
  rw [List.length_drop, tcs_dropN]
  exact Reads.cut h hk hc
theorem run_rows_hi {P : Program} (w : World) {T E : TypeId} {size : Nat} (hT : P.underlying T = some (.slice E)) (hi : (P.info? E).map (·.size) = some size) (A : Option Addr) (n c k : Nat) (hk : k ≤ n) (hc : n ≤ c) :
    (Instr.sliceAt T (.slice A n c) none (some (.int .i64 (k : Int))) none).run P w = .ok (.slice A k c) w := by
  obtain ⟨i, hi', rfl⟩ : ∃ i, P.info? E = some i ∧ i.size = size := by
    cases h : P.info? E with
    | none => simp [h] at hi
    | some i => exact ⟨i, rfl, by simpa [h] using hi⟩
  have h2 : (k : Int) ≤ (c : Int) := by omega
  have hk' : k ≤ c := by omega
  have e : A.map (·.add 0) = A := by cases A <;> simp [Addr.add]
  simp [Instr.sliceAt, Instr.slice, Instr.sliceBounds, Instr.sliceBound, run_underlying hT, sizeOf, typeInfo, hi', asIntOf, hk', hk, e]
theorem run_rows_lo {P : Program} (w : World) {T E : TypeId} {size : Nat} (hT : P.underlying T = some (.slice E)) (hi : (P.info? E).map (·.size) = some size) (A : Option Addr) (n c k : Nat) (hk : k ≤ n) :
    (Instr.sliceAt T (.slice A n c) (some (.int .i64 (k : Int))) none none).run P w = .ok (.slice (if c = k then A else A.map (·.add (k * size))) (n - k) (c - k)) w := by
  obtain ⟨i, hi', rfl⟩ : ∃ i, P.info? E = some i ∧ i.size = size := by
    cases h : P.info? E with
    | none => simp [h] at hi
    | some i => exact ⟨i, rfl, by simpa [h] using hi⟩
  have h2 : (k : Int) ≤ (n : Int) := by omega
  simp [Instr.sliceAt, Instr.slice, Instr.sliceBounds, Instr.sliceBound, run_underlying hT, sizeOf, typeInfo, hi', asIntOf, hk]
theorem fits_take {l : List Tok} (h : Fits l) (k : Nat) : Fits (l.take k) := ⟨by rw [List.length_take]; have := h.1; omega, fun t ht => h.2 t (List.mem_of_mem_take ht)⟩
theorem fits_drop {l : List Tok} (h : Fits l) (k : Nat) : Fits (l.drop k) := ⟨by rw [List.length_drop]; have := h.1; omega, fun t ht => h.2 t (List.mem_of_mem_drop ht)⟩
theorem join_len (l : List Tok) : (join l).length ≤ l.length := by have := fold_len l []; simpa [join] using this
theorem fits_join (l : List Tok) (h : l.length ≤ 1099511627776) : Fits (join l) := ⟨Nat.le_trans (join_len l) h, fun t ht => (right_fit (join_all l t ht)).1⟩
theorem fits_app {l m : List Tok} (h : Fits l) (h' : Fits m) (hs : l.length + m.length ≤ 1099511627776) : Fits (l ++ m) := ⟨by rw [List.length_append]; exact hs, fun t ht => by
  rcases List.mem_append.1 ht with h1 | h1
  · exact h.2 t h1
  · exact h'.2 t h1⟩
theorem join_out (A : Option Addr) (c : Nat) (l : List Tok) (w : World) (hl : TR w w.heap.size A l) (hf : Fits l) (hk40 : l.length ≤ 1000000) :
    Calls Try.prog 50 #[.slice A l.length c] w (OutT 35 w (join l)) :=
  (join_any A c l w hl hf hk40).mono fun e w' ⟨⟨A', c', hv, ho⟩, ⟨v, he⟩, hg⟩ => by
    subst he
    obtain rfl : v = .slice A' (join l).length c' := hv
    exact ⟨A', c', rfl, ho, hg⟩
/-- The numbers and lengths lie in their ranges. -/
def Bnd (t : Tok) : Prop := -9223372036854775808 ≤ t.f ∧ t.f ≤ 9223372036854775807 ∧ -9223372036854775808 ≤ t.m ∧ t.m ≤ 9223372036854775807 ∧ t.d.length ≤ maxLen
theorem few_fits {l : List Tok} (h : fewB l = true) (hb : ∀ t ∈ l, Bnd t) : l.length ≤ 30 ∧ Fits l ∧ bytes l ≤ 6000 := by
  unfold fewB shortB at h
  rw [Bool.and_eq_true, decide_eq_true_eq, List.all_eq_true] at h
  obtain ⟨h1, h2⟩ := h
  have h2' : ∀ t ∈ l, t.d.length ≤ 200 := fun t ht => by simpa using h2 t ht
  refine ⟨h1, ⟨by omega, fun t ht => ?_⟩, ?_⟩
  · obtain ⟨b1, b2, b3, b4, _⟩ := hb t ht
    exact ⟨b1, b2, b3, b4, by have := h2' t ht; omega⟩
  · have : bytes l ≤ l.length * 200 := by
      clear h1 h2 hb
      induction l with
      | nil => simp [bytes]
      | cons t l ih =>
        have := ih (fun x hx => h2' x (by simp [hx]))
        have ht := h2' t (by simp)
        rw [show t :: l = [t] ++ l from rfl, bytes_append, bytes_one, List.length_append, List.length_singleton]
        split <;> omega
    omega
theorem same_self (J : List Tok) : decide (J = J) = true := by simp
theorem pick_k (n : Nat) (b : UInt8) : ∃ k, k ≤ n ∧ (0 < n → (n8 b).tmod ((n : Int) + 1) = (k : Int)) ∧ (n = 0 → k = 0) := by
  refine ⟨b.toNat % (n + 1), by have := Nat.mod_lt b.toNat (show 0 < n + 1 by omega); omega, fun _ => ?_, fun h => by subst h; exact Nat.mod_one _⟩
  show ((b.toNat : Nat) : Int).tmod ((n : Int) + 1) = _
  rw [Int.tmod_eq_emod_of_nonneg (by omega), Int.natCast_emod]
  rfl
end Tk
end Go.Proofs.Ytgnogoghfendpaa

