/- The document's weak sums of windows, on lists of bytes: plain definitions, and the laws on them. No program. No condition. -/
set_option linter.unusedVariables false
namespace Go.Proofs.Ytcibngbgcnnjnaa
namespace Roll
def step (s : UInt16 × UInt16) (c : UInt8) : UInt16 × UInt16 := (s.1 + c.toUInt16, s.2 + (s.1 + c.toUInt16))
def run (l : List UInt8) : UInt16 × UInt16 := l.foldl step (0, 0)
def whole (p : UInt16 × UInt16) : UInt32 := p.1.toUInt32 ||| p.2.toUInt32 * 65536
def halves (s : UInt32) : UInt16 × UInt16 := (s.toUInt16, (s / 65536).toUInt16)
/-- The weak sum. -/
def of (l : List UInt8) : UInt32 := whole (run l)
/-- The sum of the bytes; the sum of their weights. -/
def S : List UInt8 → Nat
  | [] => 0
  | c :: l => c.toNat + S l
def T : List UInt8 → Nat
  | [] => 0
  | c :: l => (l.length + 1) * c.toNat + T l
theorem S_append (a b : List UInt8) : S (a ++ b) = S a + S b := by
  induction a with
  | nil => simp [S]
  | cons c a ih => simp only [List.cons_append, S, ih]; omega
theorem T_append (a b : List UInt8) : T (a ++ b) = T a + b.length * S a + T b := by
  induction a with
  | nil => simp [S, T]
  | cons c a ih =>
    simp only [List.cons_append, S, T, ih, List.length_append]
    rw [Nat.mul_add, show a.length + b.length + 1 = (a.length + 1) + b.length from by omega, Nat.add_mul]
    omega
theorem run_snoc (l : List UInt8) (c : UInt8) : run (l ++ [c]) = step (run l) c := by simp [run, List.foldl_append]
theorem list_snoc {P : List UInt8 → Prop} (h0 : P []) (h1 : ∀ l c, P l → P (l ++ [c])) (l : List UInt8) : P l := by
  rw [← List.reverse_reverse l]
  induction l.reverse with
  | nil => exact h0
  | cons c r ih => rw [List.reverse_cons]; exact h1 _ _ ih
theorem run_nums (l : List UInt8) : (run l).1.toNat = S l % 65536 ∧ (run l).2.toNat = T l % 65536 := by
  induction l using list_snoc with
  | h0 => exact ⟨rfl, rfl⟩
  | h1 l c ih =>
    obtain ⟨h1, h2⟩ := ih
    have hc := c.toNat_lt
    rw [run_snoc, S_append, T_append]
    simp only [step, S, T, List.length_cons, List.length_nil, UInt16.toNat_add, h1, h2]
    have e : c.toUInt16.toNat = c.toNat := by simp
    rw [e]
    constructor <;> omega
theorem whole_toNat (p : UInt16 × UInt16) : (whole p).toNat = p.1.toNat + 65536 * p.2.toNat := by
  have h1 := p.1.toNat_lt
  have h2 := p.2.toNat_lt
  unfold whole
  rw [UInt32.toNat_or, UInt32.toNat_mul]
  have e1 : p.1.toUInt32.toNat = p.1.toNat := by simp
  have e2 : p.2.toUInt32.toNat = p.2.toNat := by simp
  rw [e1, e2]
  show p.1.toNat ||| p.2.toNat * 65536 % 4294967296 = _
  rw [Nat.mod_eq_of_lt (by omega)]
  have := Nat.two_pow_add_eq_or_of_lt (i := 16) (b := p.1.toNat) (by omega) p.2.toNat
  rw [Nat.or_comm, Nat.mul_comm p.2.toNat, show (65536 : Nat) = 2 ^ 16 from rfl, ← this]
  omega
theorem halves_whole (p : UInt16 × UInt16) : halves (whole p) = p := by
  have h1 := p.1.toNat_lt
  have h2 := p.2.toNat_lt
  have h := whole_toNat p
  unfold halves
  apply Prod.ext
  · apply UInt16.toNat_inj.1
    show (whole p).toUInt16.toNat = _
    simp [h]
  · apply UInt16.toNat_inj.1
    show (whole p / 65536).toUInt16.toNat = _
    simp [h]
    omega
theorem whole_inj {a b : List UInt8} (h1 : S a % 65536 = S b % 65536) (h2 : T a % 65536 = T b % 65536) : of a = of b := by
  apply UInt32.toNat_inj.1
  obtain ⟨a1, a2⟩ := run_nums a
  obtain ⟨b1, b2⟩ := run_nums b
  unfold of
  rw [whole_toNat, whole_toNat, a1, a2, b1, b2, h1, h2]

/-! ### one byte more; the next window; two texts -/
def grow (s : UInt32) (c : UInt8) : UInt32 := whole (step (halves s) c)
def roll (s : UInt32) (n : UInt16) (out inn : UInt8) : UInt32 :=
  grow (whole ((halves s).1 - out.toUInt16, (halves s).2 - n * out.toUInt16)) inn
def both (a b : UInt32) (n : UInt16) : UInt32 := whole ((halves a).1 + (halves b).1, (halves a).2 + n * (halves a).1 + (halves b).2)
theorem grow_of (l : List UInt8) (c : UInt8) : grow (of l) c = of (l ++ [c]) := by
  unfold grow of
  rw [halves_whole, run_snoc]
theorem run_cons (o : UInt8) (l : List UInt8) : ((run (o :: l)).1 - o.toUInt16, (run (o :: l)).2 - UInt16.ofNat (l.length + 1) * o.toUInt16) = run l := by
  obtain ⟨a1, a2⟩ := run_nums (o :: l)
  obtain ⟨b1, b2⟩ := run_nums l
  have ho := o.toNat_lt
  have e : o.toUInt16.toNat = o.toNat := by simp
  apply Prod.ext
  · apply UInt16.toNat_inj.1
    show ((run (o :: l)).1 - o.toUInt16).toNat = _
    rw [UInt16.toNat_sub, a1, b1, e]
    simp only [S]
    omega
  · apply UInt16.toNat_inj.1
    show ((run (o :: l)).2 - UInt16.ofNat (l.length + 1) * o.toUInt16).toNat = _
    rw [UInt16.toNat_sub, UInt16.toNat_mul, UInt16.toNat_ofNat', a2, b2, e]
    simp only [T]
    have hm : (l.length + 1) % 2 ^ 16 * o.toNat % 2 ^ 16 = (l.length + 1) * o.toNat % 2 ^ 16 := Nat.mod_mul_mod _ _ _
    rw [hm]
    generalize (l.length + 1) * o.toNat = z
    omega
theorem roll_of (o : UInt8) (l : List UInt8) (c : UInt8) : roll (of (o :: l)) (UInt16.ofNat (l.length + 1)) o c = of (l ++ [c]) := by
  unfold roll
  rw [show halves (of (o :: l)) = run (o :: l) from halves_whole _, run_cons]
  exact grow_of l c
theorem both_of (a b : List UInt8) : both (of a) (of b) (UInt16.ofNat b.length) = of (a ++ b) := by
  unfold both
  rw [show halves (of a) = run a from halves_whole _, show halves (of b) = run b from halves_whole _]
  unfold of
  congr 1
  obtain ⟨a1, a2⟩ := run_nums a
  obtain ⟨b1, b2⟩ := run_nums b
  obtain ⟨c1, c2⟩ := run_nums (a ++ b)
  apply Prod.ext
  · apply UInt16.toNat_inj.1
    show ((run a).1 + (run b).1).toNat = _
    rw [UInt16.toNat_add, a1, b1, c1, S_append]
    omega
  · apply UInt16.toNat_inj.1
    show ((run a).2 + UInt16.ofNat b.length * (run a).1 + (run b).2).toNat = _
    rw [UInt16.toNat_add, UInt16.toNat_add, UInt16.toNat_mul, UInt16.toNat_ofNat', a1, a2, b2, c2, T_append]
    have hm : b.length % 2 ^ 16 * (S a % 65536) % 2 ^ 16 = b.length * S a % 2 ^ 16 := by rw [Nat.mod_mul_mod]; exact Nat.mul_mod_mod _ _ _
    rw [hm]
    generalize b.length * S a = z
    omega

/-! ### the reference's way -/
/-- The sums after the first k bytes of l. -/
def refA (l : List UInt8) (k : Nat) : Nat := S (l.take k) % 65536
def W (n : Nat) : List UInt8 → Nat
  | [] => 0
  | c :: l => n * c.toNat + W (n - 1) l
theorem W_len (l : List UInt8) : W l.length l = T l := by
  induction l with
  | nil => rfl
  | cons c l ih => simp only [W, T, List.length_cons, Nat.add_sub_cancel, ih]
theorem W_snoc (n : Nat) (l : List UInt8) (c : UInt8) (h : l.length ≤ n) : W n (l ++ [c]) = W n l + (n - l.length) * c.toNat := by
  induction l generalizing n with
  | nil => simp [W]
  | cons d l ih =>
    simp only [List.cons_append, W, List.length_cons]
    rw [ih (n - 1) (by simp at h; omega)]
    have : n - 1 - l.length = n - (l.length + 1) := by omega
    rw [this]
    omega
/-- A round of the reference's loop. -/
def refStep (n k : Nat) (s : UInt32 × UInt32) (c : UInt8) : UInt32 × UInt32 :=
  ((s.1 + c.toUInt32) % 65536, (s.2 + UInt32.ofNat (n - k) % 65536 * c.toUInt32) % 65536)
def Ref (l : List UInt8) (k : Nat) (s : UInt32 × UInt32) : Prop := s.1.toNat = S (l.take k) % 65536 ∧ s.2.toNat = W l.length (l.take k) % 65536
theorem Ref.zero (l : List UInt8) : Ref l 0 (0, 0) := ⟨rfl, rfl⟩
theorem Ref.step {l : List UInt8} {k : Nat} {s : UInt32 × UInt32} (h : Ref l k s) (hk : k < l.length) (hl : l.length ≤ 4294967295) : Ref l (k + 1) (refStep l.length k s l[k]) := by
  obtain ⟨h1, h2⟩ := h
  have hc := l[k].toNat_lt
  have e : l[k].toUInt32.toNat = l[k].toNat := by simp
  have ht : l.take (k + 1) = l.take k ++ [l[k]] := List.take_succ_eq_append_getElem hk
  have hlen : (l.take k).length = k := by rw [List.length_take]; omega
  constructor
  · rw [ht, S_append]
    simp only [refStep, UInt32.toNat_mod, UInt32.toNat_add, h1, e, S]
    show (S (l.take k) % 65536 + l[k].toNat) % 4294967296 % 65536 = _
    omega
  · rw [ht, W_snoc _ _ _ (by omega), hlen]
    simp only [refStep, UInt32.toNat_mod, UInt32.toNat_add, UInt32.toNat_mul, UInt32.toNat_ofNat', h2, e]
    show (W l.length (l.take k) % 65536 + (l.length - k) % 4294967296 % 65536 * l[k].toNat % 4294967296) % 4294967296 % 65536 = _
    have hb : (l.length - k) % 4294967296 % 65536 * l[k].toNat < 4294967296 := by
      have : (l.length - k) % 4294967296 % 65536 < 65536 := Nat.mod_lt _ (by omega)
      calc _ ≤ 65536 * l[k].toNat := Nat.mul_le_mul_right _ (by omega)
        _ < 4294967296 := by omega
    rw [Nat.mod_eq_of_lt hb]
    have hm : (l.length - k) % 4294967296 % 65536 * l[k].toNat % 65536 = (l.length - k) * l[k].toNat % 65536 := by
      rw [Nat.mod_eq_of_lt (show l.length - k < 4294967296 by omega)]
      exact Nat.mod_mul_mod _ _ _
    generalize (l.length - k) % 4294967296 % 65536 * l[k].toNat = y at *
    generalize (l.length - k) * l[k].toNat = z at *
    omega
theorem Ref.done {l : List UInt8} {s : UInt32 × UInt32} (h : Ref l l.length s) : s.1 + 65536 * s.2 = of l := by
  obtain ⟨h1, h2⟩ := h
  rw [List.take_length] at h1 h2
  rw [W_len] at h2
  obtain ⟨a1, a2⟩ := run_nums l
  apply UInt32.toNat_inj.1
  unfold of
  rw [whole_toNat, a1, a2, UInt32.toNat_add, UInt32.toNat_mul, h1, h2]
  show (S l % 65536 + 65536 * (T l % 65536) % 4294967296) % 4294967296 = _
  omega
end Roll
end Go.Proofs.Ytcibngbgcnnjnaa

