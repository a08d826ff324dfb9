/- copy, for elements of several cells; what is kept when two blocks are written. No condition. -/
import Derived.Test.YtpkbdodclkgjpaaMemB
import Derived.Test.YtpkbdodclkgjpaaOwnRows
import Derived.Test.YtpkbdodclkgjpaaGrowM
import Derived.Test.YtpkbdodclkgjpaaRound
set_option linter.unusedVariables false
set_option linter.unusedSimpArgs false
namespace Go.Proofs.Ytpkbdodclkgjpaa
open Go Go.RowKit Go.Shelf W
theorem run_copy_rowsN {P : Program} (w : World) (dT sT ty elem : TypeId) (size g o dLen dCap : Nat) (a : Addr) (sLen sCap n : Nat) (cur : Array Value) (t : TypeId) (cs : List Value)
    (hu : P.underlying dT = some (.slice elem)) (hs : (P.info? elem).map (·.size) = some size)
    (hg : w.heap[g]? = some (.cells cur t (0, 0))) (hn : n = Nat.min sLen dLen) (hl0 : cs.length = n * size)
    (hsrc : ∀ j v, cs[j]? = some v → w.cell? (a.add j) = some v) (hfit : o + cs.length ≤ cur.size) (h1 : ∀ v ∈ cs, v.oneCell' = true) :
    (Builtin.copy_ #[dT, sT] ty #[.slice (some ⟨g, o, none⟩) dLen dCap, .slice (some a) sLen sCap]).run P w =
      .ok (goInt n) (w.setRow g (cur.toList.take o ++ cs ++ cur.toList.drop (o + cs.length)).toArray) := by
  have hl := run_loadCells_list (P := P) w a cs hsrc
  have hst := run_storeCells_at P g o t cs 0 cur w hg (by simpa using hfit) h1
  cases hq : P.info? elem with
  | none => simp [hq] at hs
  | some i =>
    have hi : i.size = size := by simpa [hq] using hs
    rw [hl0] at hl
    simp [Builtin.copy_, run_underlying hu, Builtin.lenOf, Builtin.firstCells, sizeOf, typeInfo, hq, hi, ← hn, hl, hst]
theorem run_copy_zero {P : Program} (w : World) (dT sT ty elem : TypeId) (size dLen dCap sLen sCap : Nat) (dp sp : Option Addr)
    (hu : P.underlying dT = some (.slice elem)) (hs : (P.info? elem).map (·.size) = some size) (hn : Nat.min sLen dLen = 0) :
    (Builtin.copy_ #[dT, sT] ty #[.slice dp dLen dCap, .slice sp sLen sCap]).run P w = .ok (goInt 0) w := by
  cases hq : P.info? elem with
  | none => simp [hq] at hs
  | some i =>
    have hm : sLen.min dLen = 0 := hn
    cases dp <;> cases sp <;> simp [Builtin.copy_, run_underlying hu, Builtin.lenOf, Builtin.firstCells, sizeOf, typeInfo, hq, hm, storeCells, loadCells, loadCellsFrom]
/-- The row behind a copy: cs laid over L from place off on. -/
theorem run_copy_splice {P : Program} (w : World) (dT sT ty elem : TypeId) (size : Nat) (hpos0 : 0 < size) (dp sp : Option Addr) (dLen dCap sLen sCap n g off : Nat) (cur : List Value) (t : TypeId) (cs : List Value)
    (hu : P.underlying dT = some (.slice elem)) (hs : (P.info? elem).map (·.size) = some size) (hg : w.heap[g]? = some (.cells cur.toArray t (0, 0))) (hn : n = Nat.min sLen dLen) (hl0 : cs.length = n * size)
    (hpos : 0 < n → dp = some ⟨g, off, none⟩ ∧ ∃ ad, sp = some ad ∧ ∀ j v, cs[j]? = some v → w.cell? (ad.add j) = some v)
    (hfit : off + cs.length ≤ cur.length) (h1 : ∀ v ∈ cs, v.oneCell' = true) :
    ∃ w', (Builtin.copy_ #[dT, sT] ty #[.slice dp dLen dCap, .slice sp sLen sCap]).run P w = .ok (goInt n) w' ∧ w'.heap[g]? = some (.cells (splice cur off cs).toArray t (0, 0)) ∧ Kb g w w' ∧ w'.heap.size = w.heap.size := by
  rcases Nat.eq_zero_or_pos n with h0 | h0
  · subst h0
    obtain rfl : cs = [] := List.eq_nil_of_length_eq_zero (by simpa using hl0)
    exact ⟨w, run_copy_zero w dT sT ty elem size dLen dCap sLen sCap dp sp hu hs hn.symm, by simpa [splice] using hg, Kb.refl _ _, rfl⟩
  · obtain ⟨rfl, ad, rfl, hsrc⟩ := hpos h0
    refine ⟨_, run_copy_rowsN w dT sT ty elem size g off dLen dCap ad sLen sCap n cur.toArray t cs hu hs hg hn hl0 hsrc (by simpa using hfit) h1, by simpa [splice] using setRow_heap w g _ _ t _ hg, ?_, by simp⟩
    exact ⟨rfl, rfl, rfl, by simp, fun k _ hk => setRow_other w g k _ (fun e => hk (by rw [e]))⟩
theorem wpList_copy_rows {P : Program} {w : World} {ops : Array Oper} {rest : List Oper} {o : Oper} {a : Act} {Q : Exit → Act → World → Prop} (hgd : o.guard = none) (d s : Operand) (dT sT : TypeId)
    (ho : o.op = .call { callee := .builtin .copy, args := #[d, s], argTypes := #[dT, sT] }) (elem : TypeId) (size : Nat) (hpos0 : 0 < size) (hu : P.underlying dT = some (.slice elem)) (hsz : (P.info? elem).map (·.size) = some size)
    (dp sp : Option Addr) (dLen dCap sLen sCap : Nat) (hd : a.eval d = .slice dp dLen dCap) (hs : a.eval s = .slice sp sLen sCap)
    (g off n : Nat) (cur : List Value) (t : TypeId) (hg : w.heap[g]? = some (.cells cur.toArray t (0, 0))) (cs : List Value) (hn : n = Nat.min sLen dLen) (hl0 : cs.length = n * size)
    (hpos : 0 < n → dp = some ⟨g, off, none⟩ ∧ ∃ ad, sp = some ad ∧ ∀ j v, cs[j]? = some v → w.cell? (ad.add j) = some v)
    (hfit : off + cs.length ≤ cur.length) (h1 : ∀ v ∈ cs, v.oneCell' = true)
    (h : ∀ w', Hid (w'.heap[g]? = some (.cells (splice cur off cs).toArray t (0, 0))) → Hid (Kb g w w') → Hid (w'.heap.size = w.heap.size) → wpList P ops Q rest (a.put o.dst (goInt n)) w') :
    wpList P ops Q (o :: rest) a w := by
  obtain ⟨w', hrun, h2, h3, h4⟩ := run_copy_splice (P := P) w dT sT o.type elem size hpos0 dp sp dLen dCap sLen sCap n g off cur t cs hu hsz hg hn hl0 hpos hfit h1
  refine wpList_plain hgd fun K hK => ?_
  unfold Oper.wp
  simp only [execOp, ho, resolve, invoke, builtin, Sem.run_bind, Sem.run_pure, Result.andThen_ok, List.map_toArray, List.map_cons, List.map_nil, hd, hs, hrun]
  exact hK _ _ (h w' h2 h3 h4)
theorem step_copy_rows {P : Program} {w : World} {ops : Array Oper} {o : Oper} {a : Act} {K : Act → World → Prop} {Q : Exit → Act → World → Prop} {E' : Prop} (hgd : o.guard = none) (d s : Operand) (dT sT : TypeId)
    (ho : o.op = .call { callee := .builtin .copy, args := #[d, s], argTypes := #[dT, sT] }) (elem : TypeId) (size : Nat) (hpos0 : 0 < size) (hu : P.underlying dT = some (.slice elem)) (hsz : (P.info? elem).map (·.size) = some size)
    (dp sp : Option Addr) (dLen dCap sLen sCap : Nat) (hd : a.eval d = .slice dp dLen dCap) (hs : a.eval s = .slice sp sLen sCap)
    (g off n : Nat) (cur : List Value) (t : TypeId) (hg : w.heap[g]? = some (.cells cur.toArray t (0, 0))) (cs : List Value) (hn : n = Nat.min sLen dLen) (hl0 : cs.length = n * size)
    (hpos : 0 < n → dp = some ⟨g, off, none⟩ ∧ ∃ ad, sp = some ad ∧ ∀ j v, cs[j]? = some v → w.cell? (ad.add j) = some v)
    (hfit : off + cs.length ≤ cur.length) (h1 : ∀ v ∈ cs, v.oneCell' = true)
    (h : ∀ w', Hid (w'.heap[g]? = some (.cells (splice cur off cs).toArray t (0, 0))) → Hid (Kb g w w') → Hid (w'.heap.size = w.heap.size) → K (a.put o.dst (goInt n)) w') :
    if Region.wanted o (yielded ops a.tmps) = true then Oper.wp P o a w K Q else E' := by
  have hw : Region.wanted o (yielded ops a.tmps) = true := by simp [Region.wanted, hgd]
  rw [if_pos hw]
  obtain ⟨w', hrun, h2, h3, h4⟩ := run_copy_splice (P := P) w dT sT o.type elem size hpos0 dp sp dLen dCap sLen sCap n g off cur t cs hu hsz hg hn hl0 hpos hfit h1
  unfold Oper.wp
  simp only [execOp, ho, resolve, invoke, builtin, Sem.run_bind, Sem.run_pure, Result.andThen_ok, List.map_toArray, List.map_cons, List.map_nil, hd, hs, hrun]
  exact h w' h2 h3 h4
/-- All that lay there but blocks g and r lies as it lay. -/
structure K2 (g : Nat) (r : Option Nat) (A B : World) : Prop where
  os : B.os = A.os
  tape : B.tape = A.tape
  output : B.output = A.output
  size : A.heap.size ≤ B.heap.size
  block : ∀ k, k < A.heap.size → k ≠ g → some k ≠ r → B.heap[k]? = A.heap[k]?
section
variable {g : Nat} {r : Option Nat} {A B C : World}
theorem K2.refl (g : Nat) (r : Option Nat) (A : World) : K2 g r A A := ⟨rfl, rfl, rfl, Nat.le_refl _, fun _ _ _ _ => rfl⟩
theorem K2.gr (h : K2 g r A B) (k : Gr B C) : K2 g r A C := ⟨k.os.trans h.os, k.tape.trans h.tape, k.output.trans h.output, Nat.le_trans h.size k.size, fun i hi h1 h2 => (k.block i (Nat.lt_of_lt_of_le hi h.size)).trans (h.block i hi h1 h2)⟩
theorem K2.kb (h : K2 g r A B) {n : Nat} (k : Kb n B C) (hn : n = g ∨ some n = r ∨ A.heap.size ≤ n) : K2 g r A C :=
  ⟨k.os.trans h.os, k.tape.trans h.tape, k.output.trans h.output, Nat.le_trans h.size k.size, fun i hi h1 h2 => (World.grownBy.block k i (Nat.lt_of_lt_of_le hi h.size) (fun e => by
    cases e
    rcases hn with hn | hn | hn
    · exact h1 hn
    · exact h2 hn
    · omega)).trans (h.block i hi h1 h2)⟩
theorem K2.row (h : K2 g r A B) {q : Option Nat} (k : B.grownBy C q) (hq : ∀ n, q = some n → n = g ∨ some n = r ∨ A.heap.size ≤ n) : K2 g r A C :=
  ⟨k.os.trans h.os, k.tape.trans h.tape, k.output.trans h.output, Nat.le_trans h.size k.size, fun i hi h1 h2 => (World.grownBy.block k i (Nat.lt_of_lt_of_le hi h.size) (fun e => by
    rcases hq i e.symm with hn | hn | hn
    · exact h1 hn
    · exact h2 hn
    · omega)).trans (h.block i hi h1 h2)⟩
theorem K2.trans (h : K2 g r A B) {q : Option Nat} (k : K2 g q B C) (hq : ∀ n, q = some n → some n = r ∨ A.heap.size ≤ n) : K2 g r A C :=
  ⟨k.os.trans h.os, k.tape.trans h.tape, k.output.trans h.output, Nat.le_trans h.size k.size, fun i hi h1 h2 => (k.block i (Nat.lt_of_lt_of_le hi h.size) h1 (fun e => by
    rcases hq i e.symm with hn | hn
    · exact h2 hn
    · omega)).trans (h.block i hi h1 h2)⟩
theorem K2.below {n : Nat} (h : K2 g r A B) (h1 : n ≤ A.heap.size) (h2 : n ≤ g) (h3 : ∀ k, r = some k → n ≤ k) : Below n A B :=
  ⟨h.os, h.tape, h.output, h.size, fun i hi => h.block i (by omega) (by omega) (fun e => by have := h3 i e.symm; omega)⟩
end
end Go.Proofs.Ytpkbdodclkgjpaa

