/- A link: what it is, and how it lies. No condition. -/
import Derived.Test.YtpkbdodclkgjpaaCopyN
import Derived.Test.YtpkbdodclkgjpaaChecked
import Derived.IntWalk
set_option linter.unusedVariables false
set_option linter.unusedSimpArgs false
namespace Go.Proofs.Ytpkbdodclkgjpaa
open Go Go.RowKit W
namespace Ln
abbrev Pk := List UInt8 × Bool
structure Way where
  l : List Pk
  s : Nat
  x : Nat
def putW (a : Way) (p : Pk) : Way := if 16 ≤ a.l.length then ⟨a.l.eraseIdx 0 ++ [p], a.s, a.x + 1⟩ else ⟨a.l ++ [p], a.s, a.x⟩
/-- Bytes that lie in a block of bytes. -/
def UB (w : World) (A : Option Addr) (l : List UInt8) : Prop := 0 < l.length → ∃ g off cs fr, A = some ⟨g, off, none⟩ ∧ w.heap[g]? = some (.cells cs 5 fr) ∧ ∀ j (h : j < l.length), cs[off + j]? = some (bv l[j])
/-- Blocks of bytes lie as they lay. -/
def KU (w w' : World) : Prop := w.heap.size ≤ w'.heap.size ∧ ∀ (k : Nat) (cs : Array Value) (fr : Nat × Nat), w.heap[k]? = some (Obj.cells cs 5 fr) → w'.heap[k]? = some (Obj.cells cs 5 fr)
theorem KU.refl (w : World) : KU w w := ⟨Nat.le_refl _, fun _ _ _ h => h⟩
theorem KU.trans {a b c : World} (h : KU a b) (k : KU b c) : KU a c := ⟨Nat.le_trans h.1 k.1, fun i cs fr hi => k.2 i cs fr (h.2 i cs fr hi)⟩
theorem lt_of_heap {w : World} {k : Nat} {o : Obj} (h : w.heap[k]? = some o) : k < w.heap.size := by
  rcases Nat.lt_or_ge k w.heap.size with h1 | h1
  · exact h1
  · rw [Array.getElem?_eq_none h1] at h; cases h
theorem KU.of_gr {a b : World} (h : Gr a b) : KU a b := ⟨h.size, fun k cs fr hk => (h.block k (lt_of_heap hk)).trans hk⟩
theorem UB.ku {a b : World} {A : Option Addr} {l : List UInt8} (h : UB a A l) (k : KU a b) : UB b A l := fun hl => by
  obtain ⟨g, off, cs, fr, h1, h2, h3⟩ := h hl
  exact ⟨g, off, cs, fr, h1, k.2 _ _ _ h2, h3⟩
theorem UB.rb {w : World} {A : Option Addr} {l : List UInt8} (h : UB w A l) : RB w w.heap.size A l := by
  refine ⟨by simp [bvs_length], fun hl => ?_⟩
  obtain ⟨g, off, cs, fr, h1, h2, h3⟩ := h hl
  refine ⟨_, h1, lt_of_heap h2, fun j u hu => ?_⟩
  have hj : j < l.length := by
    have := (List.getElem?_eq_some_iff.1 hu).1
    rwa [bvs_length] at this
  have ha : (⟨g, off, none⟩ : Addr).add j = ⟨g, off + j, none⟩ := by unfold Addr.add; split <;> simp_all
  rw [ha]
  simp only [World.cell?, h2]
  rw [h3 j hj, ← hu, bvs_get?, List.getElem?_eq_getElem hj]
  rfl
theorem UB.of_ob {w : World} {base c : Nat} {A : Option Addr} {l : List UInt8} (h : OB 5 w base (.slice A l.length c) l) : UB w A l := fun hl => by
  rcases h.2 with ⟨hv, hn⟩ | ⟨g, cap, cur, hv, hg, hh, r⟩
  · omega
  · have hA : A = some ⟨g, 0, none⟩ := by injection hv
    refine ⟨g, 0, cur, (0, 0), hA, hh, fun j hj => ?_⟩
    subst hA
    have := OB.cell h j hj
    have e : w.cell? ⟨g, j, none⟩ = cur[j]? := cell_of_row w g j cur 5 (0, 0) hh
    rw [Nat.zero_add, ← e, this]
    rfl
/-- The cells of a packet. -/
def pkc (w : World) (r : Value × Value) (p : Pk) : Prop := ∃ A c, r = (.slice A p.1.length c, .bool p.2) ∧ p.1.length ≤ c ∧ c ≤ maxLen ∧ UB w A p.1
def pcs (rows : List (Value × Value)) : List Value := rows.flatMap fun r => [r.1, r.2]
theorem pcs_len (rows : List (Value × Value)) : (pcs rows).length = rows.length * 2 := flat_len (fun r : Value × Value => [r.1, r.2]) 2 (fun _ => rfl) rows
theorem pcs_append (a b : List (Value × Value)) : pcs (a ++ b) = pcs a ++ pcs b := by simp [pcs]
theorem pcs_take (rows : List (Value × Value)) (k : Nat) : pcs (rows.take k) = (pcs rows).take (k * 2) := by
  induction rows generalizing k with
  | nil => simp [pcs]
  | cons r rows ih =>
    cases k with
    | zero => simp [pcs]
    | succ k =>
      rw [List.take_succ_cons, Nat.succ_mul]
      have e : pcs (r :: rows) = r.1 :: r.2 :: pcs rows := rfl
      have e2 : pcs (r :: rows.take k) = r.1 :: r.2 :: pcs (rows.take k) := rfl
      rw [e, e2, ih]
      rfl
theorem pcs_drop (rows : List (Value × Value)) (k : Nat) : pcs (rows.drop k) = (pcs rows).drop (k * 2) := by
  induction rows generalizing k with
  | nil => simp [pcs]
  | cons r rows ih =>
    cases k with
    | zero => simp
    | succ k =>
      rw [List.drop_succ_cons, ih, Nat.succ_mul]
      rfl
structure PR (w : World) (rows : List (Value × Value)) (l : List Pk) : Prop where
  len : rows.length = l.length
  at_ : ∀ i (h : i < rows.length) (h' : i < l.length), pkc w rows[i] l[i]
theorem PR.nil_ (w : World) : PR w [] [] := ⟨rfl, fun i h => by simp at h⟩
theorem pkc.ku {a b : World} {r : Value × Value} {p : Pk} (h : pkc a r p) (k : KU a b) : pkc b r p := by
  obtain ⟨A, c, h1, h2, h3, h4⟩ := h
  exact ⟨A, c, h1, h2, h3, h4.ku k⟩
theorem PR.ku {a b : World} {rows : List (Value × Value)} {l : List Pk} (h : PR a rows l) (k : KU a b) : PR b rows l := ⟨h.len, fun i h1 h2 => (h.at_ i h1 h2).ku k⟩
theorem PR.snoc {w : World} {rows : List (Value × Value)} {l : List Pk} {r : Value × Value} {p : Pk} (h : PR w rows l) (hp : pkc w r p) : PR w (rows ++ [r]) (l ++ [p]) := by
  refine ⟨by simp [h.len], fun i h1 h2 => ?_⟩
  have hl := h.len
  by_cases hi : i < rows.length
  · rw [List.getElem_append_left hi, List.getElem_append_left (by omega)]
    exact h.at_ i hi (by omega)
  · have e1 : i = rows.length := by simp at h1; omega
    subst e1
    rw [List.getElem_append_right (Nat.le_refl _), List.getElem_append_right (by omega)]
    simpa [hl] using hp
theorem PR.erase {w : World} {rows : List (Value × Value)} {l : List Pk} (h : PR w rows l) (i : Nat) : PR w (rows.eraseIdx i) (l.eraseIdx i) := by
  have hl := h.len
  refine ⟨by rw [List.length_eraseIdx, List.length_eraseIdx, hl], fun j h1 h2 => ?_⟩
  rw [List.getElem_eraseIdx, List.getElem_eraseIdx]
  split
  · exact h.at_ j _ _
  · exact h.at_ (j + 1) _ _
theorem PR.set {w : World} {rows : List (Value × Value)} {l : List Pk} {r : Value × Value} {p : Pk} (h : PR w rows l) (i : Nat) (hp : pkc w r p) : PR w (rows.set i r) (l.set i p) := by
  refine ⟨by simp [h.len], fun j h1 h2 => ?_⟩
  rw [List.getElem_set, List.getElem_set]
  split
  · exact hp
  · exact h.at_ j _ _
theorem pcs_one (rows : List (Value × Value)) (w : World) (l : List Pk) (h : PR w rows l) : ∀ u ∈ pcs rows, u.oneCell' = true := by
  intro u hu
  obtain ⟨r, hr, hu⟩ := List.mem_flatMap.1 hu
  obtain ⟨i, hi, rfl⟩ := List.getElem_of_mem hr
  obtain ⟨A, c, e, _⟩ := h.at_ i hi (by rw [← h.len]; exact hi)
  rw [e] at hu
  simp at hu
  rcases hu with rfl | rfl <;> rfl
theorem pcs_erase (rows : List (Value × Value)) (i : Nat) : pcs (rows.eraseIdx i) = (pcs rows).take (i * 2) ++ (pcs rows).drop ((i + 1) * 2) := by
  rw [List.eraseIdx_eq_take_drop_succ, pcs_append, pcs_take, pcs_drop]
theorem pcs_set (rows : List (Value × Value)) (i : Nat) (r : Value × Value) (h : i < rows.length) : pcs (rows.set i r) = ((pcs rows).set (i * 2) r.1).set (i * 2 + 1) r.2 := by
  induction rows generalizing i with
  | nil => simp at h
  | cons q rows ih =>
    cases i with
    | zero => rfl
    | succ i =>
      rw [List.set_cons_succ]
      have e : pcs (q :: rows) = q.1 :: q.2 :: pcs rows := rfl
      have e2 : pcs (q :: rows.set i r) = q.1 :: q.2 :: pcs (rows.set i r) := rfl
      rw [e, e2, ih i (by simpa using h), Nat.succ_mul]
      rfl
theorem pcs_at (rows : List (Value × Value)) (i : Nat) (h : i < rows.length) : (pcs rows)[i * 2]? = some rows[i].1 ∧ (pcs rows)[i * 2 + 1]? = some rows[i].2 := by
  have h0 := flat_at (fun r : Value × Value => [r.1, r.2]) 2 (fun _ => rfl) rows i 0 h (by omega)
  have h1 := flat_at (fun r : Value × Value => [r.1, r.2]) 2 (fun _ => rfl) rows i 1 h (by omega)
  exact ⟨h0, h1⟩
theorem pkRow : RowType Try.prog 63 2 32 := by
  obtain ⟨i, h1, h2, h3, h4⟩ := info_parts (show (Try.prog.info? 63).map (fun i => (i.zero, i.size, i.bytes)) = some (some (.agg #[.slice none 0 0, .bool false]), 2, 32) by kernel_rfl)
  exact ⟨i, _, h1, h2, h3, h4, rfl, by omega⟩
theorem pkInfo (a b : Value) : (Try.prog.info? 63).map (·.size) = some (#[a, b] : Array Value).size := by kernel_rfl
theorem pkSize : (Try.prog.info? 63).map (·.size) = some 2 := by kernel_rfl
/-- One way: its slice's value, its packets. -/
abbrev OP (w : World) (base : Nat) (v : Value) (rows : List (Value × Value)) : Prop := OR 63 2 w base v rows.length (pcs rows)
/-- Bytes stay where the link's blocks alone are written. -/
theorem ku_of_k2 {g : Nat} {r : Option Nat} {a b : World} {cs : Array Value} (k : K2 g r a b) (hb : Blk a g 54 cs) (hr : ∀ n, r = some n → ∃ cs fr, a.heap[n]? = some (.cells cs 63 fr)) : KU a b :=
  ⟨k.size, fun i cs' fr hi => (k.block i (lt_of_heap hi) (fun e => by
    subst e
    have hb' : a.heap[i]? = some (.cells cs 54 (0, 0)) := hb
    rw [hb'] at hi
    injection hi with hi
    injection hi with _ hi _
    exact absurd hi (by decide)) (fun e => by
    obtain ⟨c2, f2, h2⟩ := hr i e.symm
    rw [h2] at hi
    injection hi with hi
    injection hi with _ hi _
    exact absurd hi (by decide))).trans hi⟩
theorem op_typ {w : World} {base : Nat} {v : Value} {rows : List (Value × Value)} (h : OP w base v rows) : ∀ n, v.ownBlock = some n → ∃ cs fr, w.heap[n]? = some (.cells cs 63 fr) := by
  intro n hn
  rcases h.2 with ⟨hv, _⟩ | ⟨g, cap, cur, hv, _, hh, _⟩
  · rw [hv] at hn; cases hn
  · rw [hv] at hn
    have : g = n := Option.some.inj hn
    subst this
    exact ⟨_, _, hh⟩
theorem op_kb {w w' : World} {base b : Nat} {v : Value} {rows : List (Value × Value)} (h : OP w base v rows) (k : Kb b w w') (hb : b < base) : OP w' base v rows := by
  refine World.ownsRow.kept h k ?_
  rcases h.2 with ⟨hv, _⟩ | ⟨g', cap, cur, hv, hg, hh, _⟩
  · exact .inl (by rw [hv]; rfl)
  · refine .inr fun e => ?_
    rw [hv] at e
    have : g' = b := Option.some.inj e
    omega
theorem op_k2 {w w' : World} {base g : Nat} {r : Option Nat} {v : Value} {rows : List (Value × Value)} (h : OP w base v rows) (k : K2 g r w w') (hg : g < base) (hr : v.ownBlock = none ∨ v.ownBlock ≠ r) : OP w' base v rows := by
  refine ⟨h.1, ?_⟩
  rcases h.2 with h | ⟨g', cap, cur, hv, hg', hh, rest⟩
  · exact .inl h
  · refine .inr ⟨g', cap, cur, hv, hg', (k.block g' (lt_of_heap hh) (by omega) (fun e => ?_)).trans hh, rest⟩
    rw [hv] at hr
    rcases hr with hr | hr
    · cases hr
    · exact hr e
end Ln
end Go.Proofs.Ytpkbdodclkgjpaa

