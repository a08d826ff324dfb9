/- The document's sketches, on lists of bytes: plain definitions, and the laws on them. No program. No condition. -/
import Derived.Test.YtogpcgbbifclmaaMixSpec
set_option linter.unusedVariables false
namespace Go.Proofs.Ytogpcgbbifclmaa
namespace Sk
def num : List UInt8 → Nat
  | [] => 0
  | c :: l => c.toNat + 256 * num l
/-- The word of a shingle. -/
def word (l : List UInt8) : UInt64 := UInt64.ofNat (num l + l.length * 4294967296)
def width (l : List UInt8) : Nat := min 4 l.length
def win (l : List UInt8) (j : Nat) : List UInt8 := (l.drop j).take (width l)
def shingles (l : List UInt8) : List UInt64 := if l.length = 0 then [] else (List.range (l.length - width l + 1)).map fun j => word (win l j)
def rnd (k : Nat) (w : UInt64) : UInt64 := (Mix.round (UInt64.ofNat k + 1, UInt64.ofNat k) w).2
def lesser (o x : UInt64) : UInt64 := if x < o then x else o
def top : UInt64 := 18446744073709551615
def least (k : Nat) (ws : List UInt64) : UInt64 := ws.foldl (fun o w => lesser o (rnd k w)) top
/-- The sketch. -/
def sk (l : List UInt8) : List UInt64 := (List.range 8).map fun k => least k (shingles l)
def alike (a b : List UInt64) : Nat := ((a.zip b).filter fun p => p.1 == p.2).length
def merge (a b : List UInt64) : List UInt64 := (a.zip b).map fun p => lesser p.1 p.2

theorem least_snoc (k : Nat) (ws : List UInt64) (w : UInt64) : least k (ws ++ [w]) = lesser (least k ws) (rnd k w) := by
  unfold least
  rw [List.foldl_append, List.foldl_cons, List.foldl_nil]
theorem sk_length (l : List UInt8) : (sk l).length = 8 := by unfold sk; rw [List.length_map, List.length_range]
theorem shingles_length (l : List UInt8) : (shingles l).length = if l.length = 0 then 0 else l.length - width l + 1 := by
  unfold shingles
  split <;> simp

theorem lesser_toNat (o x : UInt64) : (lesser o x).toNat = min o.toNat x.toNat := by
  unfold lesser
  by_cases h : x < o
  · rw [if_pos h]
    have : x.toNat < o.toNat := UInt64.lt_iff_toNat_lt.1 h
    omega
  · rw [if_neg h]
    have : ¬ x.toNat < o.toNat := fun h' => h (UInt64.lt_iff_toNat_lt.2 h')
    omega
theorem le_fold (k z : Nat) (ws : List UInt64) (o : UInt64) : z ≤ (ws.foldl (fun o w => lesser o (rnd k w)) o).toNat ↔ z ≤ o.toNat ∧ ∀ w ∈ ws, z ≤ (rnd k w).toNat := by
  induction ws generalizing o with
  | nil => simp
  | cons w ws ih =>
    rw [List.foldl_cons, ih, lesser_toNat]
    simp only [List.mem_cons, forall_eq_or_imp]
    exact ⟨fun ⟨h1, h2⟩ => ⟨by omega, by omega, h2⟩, fun ⟨h1, h2, h3⟩ => ⟨by omega, h3⟩⟩
theorem le_least (k z : Nat) (ws : List UInt64) (hz : z ≤ 18446744073709551615) : z ≤ (least k ws).toNat ↔ ∀ w ∈ ws, z ≤ (rnd k w).toNat := by
  unfold least
  rw [le_fold]
  have : top.toNat = 18446744073709551615 := rfl
  rw [this]
  exact ⟨fun h => h.2, fun h => ⟨hz, h⟩⟩
theorem least_lt (k : Nat) (ws : List UInt64) : (least k ws).toNat ≤ 18446744073709551615 := by have := (least k ws).toNat_lt; omega
theorem least_sub (k : Nat) (a b : List UInt64) (h : ∀ w ∈ b, w ∈ a) : (least k a).toNat ≤ (least k b).toNat :=
  (le_least k _ b (least_lt k a)).2 fun w hw => (le_least k _ a (least_lt k a)).1 (Nat.le_refl _) w (h w hw)
theorem least_union (k : Nat) (a b c : List UInt64) (h : ∀ w, w ∈ c ↔ w ∈ a ∨ w ∈ b) : least k c = lesser (least k a) (least k b) := by
  apply UInt64.toNat_inj.1
  rw [lesser_toNat]
  have h1 := least_sub k c a (fun w hw => (h w).2 (.inl hw))
  have h2 := least_sub k c b (fun w hw => (h w).2 (.inr hw))
  have h3 : min (least k a).toNat (least k b).toNat ≤ (least k c).toNat := (le_least k _ c (by have := least_lt k a; omega)).2 fun w hw => by
    rcases (h w).1 hw with hw | hw
    · have := (le_least k _ a (least_lt k a)).1 (Nat.le_refl _) w hw; omega
    · have := (le_least k _ b (least_lt k b)).1 (Nat.le_refl _) w hw; omega
  omega

/-! ### shingles of texts of 4 bytes and more -/
theorem mem_shingles (l : List UInt8) (h4 : 4 ≤ l.length) (w : UInt64) : w ∈ shingles l ↔ ∃ j, j + 4 ≤ l.length ∧ w = word ((l.drop j).take 4) := by
  have hw : width l = 4 := by unfold width; omega
  unfold shingles win
  rw [if_neg (by omega), hw, List.mem_map]
  constructor
  · rintro ⟨j, hj, rfl⟩
    exact ⟨j, by have := List.mem_range.1 hj; omega, rfl⟩
  · rintro ⟨j, hj, rfl⟩
    exact ⟨j, List.mem_range.2 (by omega), rfl⟩
theorem part_sub (l : List UInt8) (at_ n : Nat) (hn : 4 ≤ n) (h : at_ + n ≤ l.length) (w : UInt64) (hw : w ∈ shingles ((l.drop at_).take n)) : w ∈ shingles l := by
  have hl : ((l.drop at_).take n).length = n := by simp; omega
  rw [mem_shingles _ (by omega)] at hw ⊢
  obtain ⟨j, hj, rfl⟩ := hw
  refine ⟨at_ + j, by omega, ?_⟩
  rw [hl] at hj
  rw [List.drop_take, List.take_take, List.drop_drop, Nat.min_eq_left (by omega)]
theorem twice (a : List UInt8) (ha : 4 ≤ a.length) (w : UInt64) : w ∈ shingles (a ++ a) ↔ w ∈ shingles a ∨ w ∈ shingles (a.drop (a.length - 3) ++ a.take 3) := by
  have hs : (a.drop (a.length - 3) ++ a.take 3).length = 6 := by simp; omega
  rw [mem_shingles _ (by simp; omega), mem_shingles _ ha, mem_shingles _ (by omega), hs, List.length_append]
  have seam : ∀ j, a.length - 3 ≤ j → j < a.length → ((a ++ a).drop j).take 4 = ((a.drop (a.length - 3) ++ a.take 3).drop (j - (a.length - 3))).take 4 := by
    intro j h1 h2
    rw [List.drop_append_of_le_length (by omega), List.drop_append_of_le_length (by simp; omega), List.drop_drop, show a.length - 3 + (j - (a.length - 3)) = j from by omega,
      List.take_append, List.take_append, List.take_take]
    congr 2
    simp
    omega
  constructor
  · rintro ⟨j, hj, rfl⟩
    by_cases h1 : j + 4 ≤ a.length
    · left
      refine ⟨j, h1, ?_⟩
      rw [List.drop_append_of_le_length (by omega), List.take_append_of_le_length (by simp; omega)]
    · by_cases h2 : a.length ≤ j
      · left
        refine ⟨j - a.length, by omega, ?_⟩
        rw [List.drop_append, List.drop_of_length_le h2, List.nil_append]
      · right
        exact ⟨j - (a.length - 3), by omega, by rw [seam j (by omega) (by omega)]⟩
  · rintro (⟨j, hj, rfl⟩ | ⟨j, hj, rfl⟩)
    · refine ⟨j, by omega, ?_⟩
      rw [List.drop_append_of_le_length (by omega), List.take_append_of_le_length (by simp; omega)]
    · refine ⟨a.length - 3 + j, by omega, ?_⟩
      rw [seam _ (by omega) (by omega), show a.length - 3 + j - (a.length - 3) = j from by omega]
theorem sk_twice (a : List UInt8) (ha : 4 ≤ a.length) : sk (a ++ a) = merge (sk a) (sk (a.drop (a.length - 3) ++ a.take 3)) := by
  unfold sk merge
  rw [List.zip_map', List.map_map]
  apply List.map_congr_left
  intro k _
  exact least_union k _ _ _ (twice a ha)

theorem alike_same (a : List UInt64) : alike a a = a.length := by
  unfold alike
  rw [List.filter_eq_self.2]
  · simp
  · rintro ⟨x, y⟩ h
    have : x = y := by
      obtain ⟨i, hi, e⟩ := List.getElem_of_mem h
      rw [List.getElem_zip] at e
      cases e
      rfl
    simp [this]

/-! ### the word, byte by byte -/
theorem num_lt (l : List UInt8) : num l < 256 ^ l.length := by
  induction l with
  | nil => decide
  | cons c l ih =>
    simp only [num, List.length_cons, Nat.pow_succ]
    have := c.toNat_lt
    omega
theorem num_snoc (l : List UInt8) (c : UInt8) : num (l ++ [c]) = num l + 256 ^ l.length * c.toNat := by
  induction l with
  | nil => simp [num]
  | cons d l ih =>
    simp only [List.cons_append, num, ih, List.length_cons, Nat.pow_succ]
    rw [Nat.mul_add, Nat.mul_comm (256 ^ l.length) 256, Nat.mul_assoc]
    omega
theorem or_part (hi lo c i : Nat) (hlo : lo < 2 ^ i) (hc : c < 256) : (2 ^ (i + 8) * hi + lo) ||| (c * 2 ^ i) = 2 ^ (i + 8) * hi + (lo + 2 ^ i * c) := by
  have h2 : 2 ^ i * c + lo < 2 ^ (i + 8) := by
    have : 2 ^ i * c + 2 ^ i ≤ 2 ^ i * 256 := by rw [← Nat.mul_succ]; exact Nat.mul_le_mul_left _ hc
    rw [Nat.pow_add]
    omega
  have hlt : lo < 2 ^ (i + 8) := by omega
  rw [Nat.two_pow_add_eq_or_of_lt hlt, Nat.add_comm lo, Nat.two_pow_add_eq_or_of_lt h2, Nat.two_pow_add_eq_or_of_lt hlo, Nat.mul_comm c, Nat.or_assoc, Nat.or_comm lo]
/-- The word when k bytes have come. -/
def upto (l : List UInt8) (k : Nat) : UInt64 := UInt64.ofNat (num (l.take k) + l.length * 4294967296)
theorem upto_zero (l : List UInt8) : upto l 0 = UInt64.ofNat (l.length * 4294967296) := by simp [upto, num]
theorem upto_all (l : List UInt8) : upto l l.length = word l := by simp [upto, word]
theorem upto_or (l : List UInt8) (k : Nat) (hk : k < l.length) (h4 : l.length ≤ 4) (m : UInt64) (hm : m.toNat = 2 ^ (8 * k)) : upto l k ||| (l[k].toUInt64 * m) = upto l (k + 1) := by
  have hl : (l.take k).length = k := by simp; omega
  have h1 := num_lt (l.take k)
  rw [hl] at h1
  have hc := l[k].toNat_lt
  have e256 : (256 : Nat) ^ k = 2 ^ (8 * k) := by rw [show (256 : Nat) = 2 ^ 8 from rfl, ← Nat.pow_mul]
  have hP : 2 ^ (8 * k) ≤ 2 ^ 24 := Nat.pow_le_pow_right (by omega) (by omega)
  have h32 : (4294967296 : Nat) = 2 ^ (8 * k + 8) * 2 ^ (24 - 8 * k) := by rw [← Nat.pow_add, show 8 * k + 8 + (24 - 8 * k) = 32 from by omega]
  have hb : 2 ^ (8 * k) * l[k].toNat ≤ 2 ^ 24 * 255 := Nat.mul_le_mul hP (by omega)
  apply UInt64.toNat_inj.1
  rw [UInt64.toNat_or, UInt64.toNat_mul, hm]
  unfold upto
  rw [UInt64.toNat_ofNat', UInt64.toNat_ofNat', List.take_succ_eq_append_getElem hk, num_snoc, hl, e256]
  have e1 : l[k].toUInt64.toNat = l[k].toNat := by simp
  rw [e1]
  rw [e256] at h1
  rw [Nat.mod_eq_of_lt (a := l[k].toNat * 2 ^ (8 * k)) (by rw [Nat.mul_comm]; omega), Nat.mod_eq_of_lt (a := num (l.take k) + l.length * 4294967296) (by omega),
    Nat.mod_eq_of_lt (a := num (l.take k) + 2 ^ (8 * k) * l[k].toNat + l.length * 4294967296) (by omega)]
  have := or_part (l.length * 2 ^ (24 - 8 * k)) (num (l.take k)) l[k].toNat (8 * k) h1 hc
  have e3 : 2 ^ (8 * k + 8) * (l.length * 2 ^ (24 - 8 * k)) = l.length * 4294967296 := by rw [h32, Nat.mul_left_comm]
  rw [e3] at this
  rw [Nat.add_comm (num _) (l.length * 4294967296), this]
  omega
end Sk
end Go.Proofs.Ytogpcgbbifclmaa

