/- Steps more for a region that draws its order: values of several parts, rows of them. No condition. -/
import Derived.Test.YtpkbdodclkgjpaaGrowL
import Derived.Test.YtpkbdodclkgjpaaGrowC
set_option linter.unusedVariables false
set_option linter.unusedSimpArgs false
namespace Go.Proofs.Ytpkbdodclkgjpaa
open Go Go.RowKit W
/-- The parts of a value are known. -/
def KnowsL (ops : Array Oper) (Φ : Nat → Ass) (a₀ : Act) (w₀ : World) (i : Nat) : List (Nat × Operand) → List (Nat × Value) → Prop
  | [], [] => True
  | (n, x) :: xs, (m, c) :: cs => n = m ∧ Knows ops Φ a₀ w₀ i x (eqv c) ∧ KnowsL ops Φ a₀ w₀ i xs cs
  | _, _ => False
/-- A slice that reads as n rows. -/
def isR (size n : Nat) (xs : List Value) : Ass := fun v w => ∃ A c, v = .slice A n c ∧ Reads w w.heap.size size A n xs
theorem isR_lasts (size n : Nat) (xs : List Value) : Lasts (isR size n xs) := fun _ _ _ hg ⟨A, c, hv, hr⟩ => ⟨A, c, hv, Reads.more (Reads.below hr hg) hg.size⟩
section
variable {P : Program} {ops : Array Oper} {Q : Exit → Act → World → Prop} {a₀ : Act} {w₀ : World} {Φ : Nat → Ass} {i : Nat} {o : Oper}
theorem knowsL_eval {a : Act} {w : World} (hg : Gr w₀ w) (hk : ∀ t r, knownAt ops i t = some r → KnownAs Φ a₀ a w t r) : ∀ (xs : List (Nat × Operand)) (cs : List (Nat × Value)), KnowsL ops Φ a₀ w₀ i xs cs → xs.map (fun p => (p.1, a.eval p.2)) = cs
  | [], [], _ => rfl
  | (n, x) :: xs, (m, c) :: cs, ⟨h1, h2, h3⟩ => by
    rw [List.map_cons, knowsL_eval hg hk xs cs h3, h1]
    have := h2 a w hg hk
    unfold eqv at this
    simp only [this]
theorem GW.build {T : TypeId} {parts : Array (Nat × Operand)} (vals : Array (Nat × Value)) (v : Value) (ho : ops[i]? = some o) (hgd : GuardOK ops Φ i o) (hop : o.op = .build T parts)
    (hx : KnowsL ops Φ a₀ w₀ i parts.toList vals.toList) (hb : ∀ w, (Instr.build T vals).run P w = .ok v w) (hrest : GW P ops Q a₀ w₀ (setA Φ i (eqv v)) (i + 1)) : GW P ops Q a₀ w₀ Φ i :=
  GW.op (eqv v) ho (eqv_lasts v) hgd (fun a w hg hk => by
    refine .here ?_ rfl
    have e : parts.map (fun p => (p.1, a.eval p.2)) = vals := by
      apply Array.ext'
      rw [Array.toList_map]
      exact knowsL_eval hg hk _ _ hx
    obtain ⟨dst, op, ty, pos, after, guard⟩ := o
    simp only at hop
    subst hop
    show ((Instr.build T (parts.map fun p => (p.1, a.eval p.2)) >>= fun v => pure (Next.value v)) : Sem Next).run P w = _
    rw [e, Sem.run_bind, hb]
    rfl) hrest
/-- A new slice of one row. -/
theorem GW.row1 {x : Operand} {T E : TypeId} {size : Nat} (cs : Array Value) (hcs : cs.size = size) (ho : ops[i]? = some o) (hgd : GuardOK ops Φ i o) (hop : o.op = .buildSlice T 1 #[(0, x)])
    (hx : Knows ops Φ a₀ w₀ i x (eqv (.agg cs))) (hb : ∀ w, (Instr.buildSlice T 1 #[(0, .agg cs)]).run P w = .ok (.slice (some ⟨w.heap.size, 0, none⟩) 1 1) (w.alloc (.cells cs E)))
    (hrest : GW P ops Q a₀ w₀ (setA Φ i (isR size 1 cs.toList)) (i + 1)) : GW P ops Q a₀ w₀ Φ i :=
  GW.un (isR size 1 cs.toList) ho hgd hx (isR_lasts _ _ _) (fun a w _ hv => by
    have hv' : a.eval x = .agg cs := hv
    refine .val (v := .slice (some ⟨w.heap.size, 0, none⟩) 1 1) (w' := w.alloc (.cells cs E)) ?_ ((Gr.refl w).alloc _) ⟨_, 1, rfl, ?_⟩
    · obtain ⟨dst, op, ty, pos, after, guard⟩ := o
      simp only at hop
      subst hop
      unfold execOp
      simp only [List.map_toArray, List.map_cons, List.map_nil, hv', Sem.run_bind, hb, Result.andThen_ok, Sem.run_pure]
    · refine ⟨by simpa using hcs, fun _ => ⟨_, rfl, by simp, fun j u hu => ?_⟩⟩
      have ha : (⟨w.heap.size, 0, none⟩ : Addr).add j = ⟨w.heap.size, j, none⟩ := by unfold Addr.add; split <;> simp_all
      rw [ha, (Blk.new w E cs).cell]
      simpa using hu) hrest
end
section
variable {P : Program} {ops : Array Oper} {Q : Exit → Act → World → Prop} {a₀ : Act} {w₀ : World} {Φ : Nat → Ass} {i : Nat} {o : Oper}
/-- A new slice of n rows. -/
theorem GW.rowsN {T E : TypeId} {size n : Nat} {parts : Array (Nat × Operand)} (vals : Array (Nat × Value)) (cs : Array Value) (hcs : cs.size = n * size) (hn : 0 < n) (ho : ops[i]? = some o) (hgd : GuardOK ops Φ i o) (hop : o.op = .buildSlice T n parts)
    (hx : KnowsL ops Φ a₀ w₀ i parts.toList vals.toList) (hb : ∀ w, (Instr.buildSlice T n vals).run P w = .ok (.slice (some ⟨w.heap.size, 0, none⟩) n n) (w.alloc (.cells cs E)))
    (hrest : GW P ops Q a₀ w₀ (setA Φ i (isR size n cs.toList)) (i + 1)) : GW P ops Q a₀ w₀ Φ i :=
  GW.op (isR size n cs.toList) ho (isR_lasts _ _ _) hgd (fun a w hg hk => by
    refine .val (v := .slice (some ⟨w.heap.size, 0, none⟩) n n) (w' := w.alloc (.cells cs E)) ?_ ((Gr.refl w).alloc _) ⟨_, n, rfl, ?_⟩
    · have e : parts.map (fun p => (p.1, a.eval p.2)) = vals := by
        apply Array.ext'
        rw [Array.toList_map]
        exact knowsL_eval hg hk _ _ hx
      obtain ⟨dst, op, ty, pos, after, guard⟩ := o
      simp only at hop
      subst hop
      show ((Instr.buildSlice T n (parts.map fun p => (p.1, a.eval p.2)) >>= fun v => pure (Next.value v)) : Sem Next).run P w = _
      rw [e, Sem.run_bind, hb]
      rfl
    · refine ⟨by simpa using hcs, fun _ => ⟨_, rfl, by simp, fun j u hu => ?_⟩⟩
      have ha : (⟨w.heap.size, 0, none⟩ : Addr).add j = ⟨w.heap.size, j, none⟩ := by unfold Addr.add; split <;> simp_all
      rw [ha, (Blk.new w E cs).cell]
      simpa using hu) hrest
end
/-- 'l[k]', its place. -/
theorem run_idxR {P : Program} (w : World) {T E : TypeId} {size : Nat} (hT : P.underlying T = some (.slice E)) (hi : (P.info? E).map (·.size) = some size) (ad : Addr) (n c k : Nat) (hk : k < n) :
    (Instr.indexAt T (.slice (some ad) n c) (.int .i64 (k : Int))).run P w = .ok (.pointer (some (ad.add (k * size)))) w := by
  obtain ⟨i, hi', rfl⟩ : ∃ i, P.info? E = some i ∧ i.size = size := by
    cases h : P.info? E with
    | none => simp [h] at hi
    | some i => exact ⟨i, rfl, by simpa [h] using hi⟩
  have hk' : (0 : Int) ≤ (k : Int) ∧ (k : Int) < (n : Int) := ⟨by omega, by omega⟩
  simp only [Instr.indexAt, asIntOf, Sem.run_bind, Sem.run_pure, run_underlying hT, Result.andThen_ok]
  rw [if_pos hk']
  simp [sizeOf, typeInfo, hi']
/-- wpList_append_rows for an operation without guard (a guard's 'rfl' may be dear). -/
theorem wpList_append_rowsN {P : Program} {E : TypeId} {size base n : Nat} {v : Value} {xs : List Value} {w : World} {ops : Array Oper} {rest : List Oper} {o : Oper} {a : Act} {Q : Exit → Act → World → Prop} (hgd : o.guard = none) (s x : Operand) (T : TypeId)
    (ho : o.op = .call { callee := .builtin .append, args := #[s, x], argTypes := #[T, T] }) {bytes : Nat} (ht : P.underlying T = some (.slice E)) (hE : RowType P E size bytes) (hs : a.eval s = v) (hown : OR E size w base v n xs)
    (B : Nat) (A : Option Addr) (m c : Nat) (news : List Value) (hx : a.eval x = .slice A m c) (hr : Reads w B size A m news) (h1 : ∀ u ∈ news, u.oneCell' = true) (hlen : n + m ≤ maxLen) (hby : (n + m) * bytes ≤ 140737488355328) (hbase : base ≤ w.heap.size)
    (L : List Value) (hL : L = xs ++ news) (k : Nat) (hk : k = n + m) (h : ∀ A' c' w', OR E size w' base (.slice A' k c') k L → Below base w w' → wpList P ops Q rest (a.put o.dst (.slice A' k c')) w') : wpList P ops Q (o :: rest) a w :=
  wpList_append_rows (by simp [Region.wanted, hgd]) s x T ho ht hE hs hown B A m c news hx hr h1 hlen hby hbase L hL k hk h
/-- Is it this append? (Said ahead of the law, with_reducible, so that all other operations are passed by quickly.) -/
theorem wpList_isApp {P : Program} {w : World} {ops : Array Oper} {rest : List Oper} {o : Oper} {a : Act} {Q : Exit → Act → World → Prop} (s x : Operand) (T : TypeId)
    (ho : o.op = .call { callee := .builtin .append, args := #[s, x], argTypes := #[T, T] }) (h : wpList P ops Q (o :: rest) a w) : wpList P ops Q (o :: rest) a w := h
theorem wpList_isStore {P : Program} {w : World} {ops : Array Oper} {rest : List Oper} {o : Oper} {a : Act} {Q : Exit → Act → World → Prop} (T : TypeId) (x y : Operand)
    (ho : o.op = .store T x y) (h : wpList P ops Q (o :: rest) a w) : wpList P ops Q (o :: rest) a w := h
/-! ### appending to an empty slice -/
theorem OR.base_le {E : TypeId} {size n B base : Nat} {w : World} {v : Value} {xs : List Value} (h : OR E size w B v n xs) (hb : base ≤ B) : OR E size w base v n xs := by
  refine ⟨h.1, ?_⟩
  rcases h.2 with h | ⟨g, cap, cur, hv, hg, r⟩
  · exact .inl h
  · exact .inr ⟨g, cap, cur, hv, by omega, r⟩
theorem run_append_empty {P : Program} {w : World} {E : TypeId} {size base g : Nat} (T ty : TypeId) {bytes : Nat} (ht : P.underlying T = some (.slice E)) (hE : RowType P E size bytes) (hown : OR E size w base (.slice (some ⟨g, 0, none⟩) 0 0) 0 [])
    (B : Nat) (A : Option Addr) (m c : Nat) (news : List Value) (hr : Reads w B size A m news) (h1 : ∀ u ∈ news, u.oneCell' = true) (hlen : m ≤ maxLen) (hby : m * bytes ≤ 140737488355328) (hbase : base ≤ w.heap.size) :
    ∃ A' c' w', (Builtin.append_ #[T, T] ty #[.slice (some ⟨g, 0, none⟩) 0 0, .slice A m c]).run P w = .ok (.slice A' m c') w' ∧ OR E size w' base (.slice A' m c') m news ∧ Gr w w' := by
  obtain ⟨A', c', w', hrun, ho, _⟩ := run_append_rows (P := P) T ty ht hE hown B A m c news hr h1 (by omega) (by simpa using hby) hbase
  simp only [Nat.zero_add, List.nil_append] at hrun ho
  refine ⟨A', c', w', hrun, ho, ?_⟩
  obtain ⟨i, z, hi, hz, h2, h3, h4, h5⟩ := hE
  rcases Nat.eq_zero_or_pos m with h0 | h0
  · subst h0
    have hn : news = [] := List.eq_nil_of_length_eq_zero (by simpa using hr.1)
    have e : (Builtin.append_ #[T, T] ty #[.slice (some ⟨g, 0, none⟩) 0 0, .slice A 0 c]).run P w = .ok (.slice (some ⟨g, 0, none⟩) 0 0) w := by
      cases A <;> simp [Builtin.append_, run_underlying ht, sizeOf, typeInfo, hi, Builtin.lenOf, Builtin.firstCells, storeCells, loadCells, loadCellsFrom]
    rw [e] at hrun
    injection hrun with _ hw
    rw [← hw]
    exact Gr.refl w
  · obtain ⟨ad, hA, _, hc⟩ := hr.2 h0
    subst hA
    have hnc : Builtin.nextslicecap m 0 = m := nextslicecap_zero h0
    have e := run_append_grow (P := P) w T ty E i z ht hi hz ⟨g, 0, none⟩ 0 0 [] (by simp) (by simp) ad m c news (by rw [h2]; exact hr.1) hc (by omega) (by simp only [Nat.zero_add]; unfold maxLen at hlen; omega) (by simp only [Nat.zero_add]; rw [hnc, h3]; omega)
    rw [e] at hrun
    injection hrun with _ hw
    rw [← hw]
    exact (Gr.refl w).drew.alloc _
/-- An own slice, of blocks from base on. -/
def isOR (E : TypeId) (size base n : Nat) (xs : List Value) : Ass := fun v w => ∃ A c, v = .slice A n c ∧ OR E size w base (.slice A n c) n xs
theorem isOR_lasts (E : TypeId) (size base n : Nat) (xs : List Value) : Lasts (isOR E size base n xs) := fun _ _ _ hg ⟨A, c, hv, hr⟩ => ⟨A, c, hv, OR.below hr hg⟩
def isOE (E : TypeId) (size base : Nat) : Ass := fun v w => ∃ g, v = .slice (some ⟨g, 0, none⟩) 0 0 ∧ OR E size w base (.slice (some ⟨g, 0, none⟩) 0 0) 0 []
theorem isOE_lasts (E : TypeId) (size base : Nat) : Lasts (isOE E size base) := fun _ _ _ hg ⟨g, hv, hr⟩ => ⟨g, hv, OR.below hr hg⟩
section
variable {P : Program} {ops : Array Oper} {Q : Exit → Act → World → Prop} {a₀ : Act} {w₀ : World} {Φ : Nat → Ass} {i : Nat} {o : Oper}
/-- '[]T{}' -/
theorem GW.empty {T E : TypeId} {size base : Nat} (hb : base ≤ w₀.heap.size) (ho : ops[i]? = some o) (hgd : GuardOK ops Φ i o) (hop : o.op = .buildSlice T 0 #[])
    (hr : ∀ w, (Instr.buildSlice T 0 #[]).run P w = .ok (.slice (some ⟨w.heap.size, 0, none⟩) 0 0) (w.alloc (.cells #[] E)))
    (hrest : GW P ops Q a₀ w₀ (setA Φ i (isOE E size base)) (i + 1)) : GW P ops Q a₀ w₀ Φ i :=
  GW.op (isOE E size base) ho (isOE_lasts _ _ _) hgd (fun a w hg _ => by
    refine .val (v := .slice (some ⟨w.heap.size, 0, none⟩) 0 0) (w' := w.alloc (.cells #[] E)) ?_ ((Gr.refl w).alloc _) ⟨_, rfl, by simp, .inr ⟨w.heap.size, 0, #[], rfl, Nat.le_trans hb hg.size, heap_alloc_new w _, Nat.le_refl _, by unfold maxLen; omega, by simp, by simp⟩⟩
    obtain ⟨dst, op, ty, pos, after, guard⟩ := o
    simp only at hop
    subst hop
    unfold execOp
    simp only [List.map_toArray, List.map_nil, Sem.run_bind, hr, Result.andThen_ok, Sem.run_pure]) hrest
/-- append to an empty slice -/
theorem GW.appE {s x : Operand} {T E : TypeId} {size bytes base n : Nat} {xs : List Value} {B : Nat} (ho : ops[i]? = some o) (hgd : GuardOK ops Φ i o) (hop : o.op = .call { callee := .builtin .append, args := #[s, x], argTypes := #[T, T] })
    (ht : P.underlying T = some (.slice E)) (hE : RowType P E size bytes) (hx : Knows ops Φ a₀ w₀ i s (isOE E size base)) (hy : Knows ops Φ a₀ w₀ i x (isOR E size B n xs)) (h1 : ∀ u ∈ xs, u.oneCell' = true) (hlen : n ≤ maxLen) (hby : n * bytes ≤ 140737488355328) (hb : base ≤ w₀.heap.size)
    (hrest : GW P ops Q a₀ w₀ (setA Φ i (isOR E size base n xs)) (i + 1)) : GW P ops Q a₀ w₀ Φ i :=
  GW.bi (isOR E size base n xs) ho hgd hx hy (isOR_lasts _ _ _ _ _) (fun a w hg ⟨g, hv, hog⟩ ⟨A, c, hu, hr⟩ => by
    obtain ⟨A', c', w', hrun, h2, h3⟩ := run_append_empty (P := P) T o.type ht hE hog w.heap.size A n c xs hr.reads h1 hlen hby (Nat.le_trans hb hg.size)
    refine .val (v := .slice A' n c') (w' := w') ?_ h3 ⟨A', c', rfl, h2⟩
    unfold execOp
    simp only [hop, resolve, invoke, builtin, Sem.run_bind, Sem.run_pure, Result.andThen_ok, List.map_toArray, List.map_cons, List.map_nil, hv, hu, hrun]) hrest
end
end Go.Proofs.Ytpkbdodclkgjpaa

