/- Memory in a walk, further: a string's bytes appended to a byte slice of the call's own; a block of two cells stored whole; what a call hands back as a byte slice of its own. No condition. -/
import Derived.Test.YtpkbdodclkgjpaaGrowB
import Derived.Lib.AppendStr
import Derived.Laws.CopyOwn
import Derived.Laws.Tables
set_option linter.unusedVariables false
set_option linter.unusedSimpArgs false
namespace Go.Proofs.Ytpkbdodclkgjpaa
open Go Go.RowKit W
theorem Blk.pair {w : World} {g : Nat} {t : TypeId} {a0 a1 : Value} (h : Blk w g t #[a0, a1]) (u0 u1 : Value) : w.frozen? ⟨g, 0, none⟩ = false ∧ w.cell? ⟨g, 0, none⟩ = some a0 ∧ (w.setCell ⟨g, 0, none⟩ u0).frozen? ⟨g, 1, none⟩ = false ∧
    (w.setCell ⟨g, 0, none⟩ u0).cell? ⟨g, 1, none⟩ = some a1 ∧ Blk ((w.setCell ⟨g, 0, none⟩ u0).setCell ⟨g, 1, none⟩ u1) g t #[u0, u1] :=
  ⟨h.frozen 0, h.cell 0, (h.set_ 0 u0).frozen 1, (h.set_ 0 u0).cell 1, (h.set_ 0 u0).set_ 1 u1⟩
theorem RB.new1 (w : World) (t : TypeId) (x : UInt8) : RB (w.alloc (.cells #[.int .u8 (n8 x)] t)) (w.heap.size + 1) (some ⟨w.heap.size, 0, none⟩) [x] := RB.of_new w t [x] (0, 0)
/-- A byte slice that the call made: of the bytes L, on memory from w on. -/
def Out (E : TypeId) (w : World) (L : List UInt8) : Ending → World → Prop := fun e w' => ∃ A c, e = .returned (.slice A L.length c) ∧ OB E w' w.heap.size (.slice A L.length c) L ∧ Gr w w'
theorem run_index_arr {P : Program} (w : World) {T E : TypeId} {n : Nat} {kd : IntKind} {i : TypeInfo} (hT : P.underlying T = some (.array n E)) (hE : P.underlying E = some (.int kd)) (hi : P.info? E = some i) (h1 : i.size = 1)
    (cs : Array Value) (k : Nat) (hk : k < n) (v : Value) (hv : cs[k]? = some v) : (Instr.index T (.agg cs) (.int .i64 (k : Int))).run P w = .ok v w := by
  have hk' : (0 : Int) ≤ (k : Int) ∧ (k : Int) < (n : Int) := ⟨by omega, by omega⟩
  have hp := run_part_int (P := P) w hE cs (k * 1) v (by simpa using hv)
  simp only [Instr.index, asIntOf, Sem.run_bind, Sem.run_pure, run_underlying hT, Result.andThen_ok]
  rw [if_pos hk']
  simp only [Sem.run_bind, sizeOf, typeInfo]
  simp [hi, h1]
  simpa using hp
section
variable {P : Program} {w : World}
theorem strCells_bvs (l : List UInt8) : Lib.strCells ⟨l.toArray⟩ = bvs l := by
  simp [Lib.strCells, bvs, bv, n8]
theorem run_append_text (base : Nat) (T U ty E : TypeId) (ht : P.underlying T = some (.slice E)) (hU : P.underlying U = some .string) (hE : ByteType P E) (v : Value) (l₁ : List UInt8) (hown : OB E w base v l₁)
    (l₂ : List UInt8) (hlen : l₁.length + l₂.length ≤ 140737488355328) (hbase : base ≤ w.heap.size) :
    ∃ A' c' w', (Builtin.append_ #[T, U] ty #[v, .string ⟨l₂.toArray⟩]).run P w = .ok (.slice A' (l₁ ++ l₂).length c') w' ∧ OB E w' base (.slice A' (l₁ ++ l₂).length c') (l₁ ++ l₂) ∧ Below base w w' := by
  obtain ⟨i0, hi0, hz0, hz1, hz2⟩ := info_parts hE.2
  have hsz : (⟨l₂.toArray⟩ : ByteArray).size = l₂.length := rfl
  obtain ⟨v', w', hrun, h2, h3, _⟩ := Lib.run_append_own_string (P := P) w base T U ty E i0 ht hU hi0 hz0 hz1 hz2 v l₁.length (bvs l₁) hown ⟨l₂.toArray⟩ (by rw [hsz]; unfold maxLen; omega) (by rw [hsz]; omega) hbase
  have h2' : OB E w' base v' (l₁ ++ l₂) := by
    unfold OB
    rw [bvs_append, List.length_append]
    rw [hsz, strCells_bvs] at h2
    exact h2
  obtain ⟨A', c', rfl, _, _⟩ := h2'.shape
  exact ⟨A', c', w', hrun, h2', below_of_grown h3 hbase (fun g hg => (World.ownsRow.lt hown g hg).1)⟩
theorem wpList_append_text {ops : Array Oper} {rest : List Oper} {o : Oper} {a : Act} {Q : Exit → Act → World → Prop} (hgd : Region.wanted o (yielded ops a.tmps) = true) (s x : Operand) (T U : TypeId)
    (ho : o.op = .call { callee := .builtin .append, args := #[s, x], argTypes := #[T, U] })
    (base : Nat) (E : TypeId) (ht : P.underlying T = some (.slice E)) (hU : P.underlying U = some .string) (hE : ByteType P E) (v : Value) (l₁ : List UInt8) (hs : a.eval s = v) (hown : OB E w base v l₁)
    (l₂ : List UInt8) (hx : a.eval x = .string ⟨l₂.toArray⟩) (hlen : l₁.length + l₂.length ≤ 140737488355328) (hbase : base ≤ w.heap.size)
    (L : List UInt8) (hL : L = l₁ ++ l₂) (m : Nat) (hm : m = L.length) (h : ∀ A' c' w', OB E w' base (.slice A' m c') L → Below base w w' → wpList P ops Q rest (a.put o.dst (.slice A' m c')) w') : wpList P ops Q (o :: rest) a w :=
  wpList_wanted hgd fun _ hK => by
    subst hL
    subst hm
    obtain ⟨A', c', w', hrun, h2, h3⟩ := run_append_text (P := P) (w := w) base T U o.type E ht hU hE v l₁ hown l₂ hlen hbase
    unfold Oper.wp execOp
    simp only [ho, resolve, invoke, builtin, Sem.run_bind, Sem.run_pure, Result.andThen_ok, List.map_toArray, List.map_cons, List.map_nil, hs, hx, hrun]
    exact hK _ _ (h A' c' w' h2 h3)
theorem step_append_text {ops : Array Oper} {o : Oper} {a : Act} {K : Act → World → Prop} {Q : Exit → Act → World → Prop} {E' : Prop} (hgd : o.guard = none) (s x : Operand) (T U : TypeId)
    (ho : o.op = .call { callee := .builtin .append, args := #[s, x], argTypes := #[T, U] })
    (base : Nat) (E : TypeId) (ht : P.underlying T = some (.slice E)) (hU : P.underlying U = some .string) (hE : ByteType P E) (v : Value) (l₁ : List UInt8) (hs : a.eval s = v) (hown : OB E w base v l₁)
    (l₂ : List UInt8) (hx : a.eval x = .string ⟨l₂.toArray⟩) (hlen : l₁.length + l₂.length ≤ 140737488355328) (hbase : base ≤ w.heap.size)
    (L : List UInt8) (hL : L = l₁ ++ l₂) (m : Nat) (hm : m = L.length) (h : ∀ A' c' w', OB E w' base (.slice A' m c') L → Below base w w' → K (a.put o.dst (.slice A' m c')) w') :
    if Region.wanted o (yielded ops a.tmps) = true then Oper.wp P o a w K Q else E' := by
  subst hL
  subst hm
  have hw : Region.wanted o (yielded ops a.tmps) = true := by simp [Region.wanted, hgd]
  rw [if_pos hw]
  obtain ⟨A', c', w', hrun, h2, h3⟩ := run_append_text (P := P) (w := w) base T U o.type E ht hU hE v l₁ hown l₂ hlen hbase
  unfold Oper.wp execOp
  simp only [ho, resolve, invoke, builtin, Sem.run_bind, Sem.run_pure, Result.andThen_ok, List.map_toArray, List.map_cons, List.map_nil, hs, hx, hrun]
  exact h A' c' w' h2 h3
end
/-- All that lay there but block g lies as it lay. -/
def Kb (g : Nat) (w w' : World) : Prop := w.grownBy w' (some g)
section
variable {g : Nat} {a b c : World}
theorem Kb.refl (g : Nat) (w : World) : Kb g w w := World.grownBy.refl w _
theorem Kb.size (h : Kb g a b) : a.heap.size ≤ b.heap.size := World.grownBy.size h
theorem Kb.trans (h : Kb g a b) (k : Kb g b c) : Kb g a c := World.grownBy.trans h k
theorem Kb.set (h : Kb g a b) (i : Nat) (u : Value) : Kb g a (b.setCell ⟨g, i, none⟩ u) := World.grownBy.trans h ⟨rfl, rfl, rfl, by simp, fun k _ hk => Below.heap_setCell b ⟨g, i, none⟩ u k (fun e => hk (by rw [e]))⟩
theorem Kb.alloc (h : Kb g a b) (o : Obj) : Kb g a (b.alloc o) := World.grownBy.trans h (World.grownBy_alloc b o _)
theorem Kb.to {B : Nat} (h : Kb g a b) (k : Below B b c) (hB : a.heap.size ≤ B) : Kb g a c :=
  ⟨k.os.trans (World.grownBy.os h), k.tape.trans (World.grownBy.tape h), k.output.trans (World.grownBy.output h), Nat.le_trans (World.grownBy.size h) k.size, fun i hi hne => (k.block i (by omega)).trans (World.grownBy.block h i hi hne)⟩
theorem Kb.gr (h : Kb g a b) (k : Gr b c) : Kb g a c := h.to k (World.grownBy.size h)
theorem Kb.of_gr (h : Gr a b) : Kb g a b := (Kb.refl g a).gr h
theorem Kb.below (h : Kb g a b) (hg : g ≤ a.heap.size) : Below g a b := ⟨World.grownBy.os h, World.grownBy.tape h, World.grownBy.output h, World.grownBy.size h, fun i hi => World.grownBy.block h i (by omega) (fun e => by cases e; omega)⟩
theorem Kb.blk (h : Kb g a b) {i : Nat} {t : TypeId} {cs : Array Value} (hb : Blk a i t cs) (hi : i ≠ g) : Blk b i t cs := hb.grown h (fun e => hi (by cases e; rfl))
/-- A store into a block that is new. -/
theorem Kb.far {n : Nat} (h : Kb g a b) (hb : a.heap.size ≤ n) (i : Nat) (u : Value) : Kb g a (b.setCell ⟨n, i, none⟩ u) :=
  ⟨World.grownBy.os (w' := b) h, World.grownBy.tape (w' := b) h, World.grownBy.output (w' := b) h, by rw [World.size_setCell]; exact World.grownBy.size (w' := b) h, fun k hk hne => (Below.heap_setCell b ⟨n, i, none⟩ u k (by show k ≠ n; omega)).trans (World.grownBy.block (w' := b) h k hk hne)⟩
end
theorem Kb.new {a b : World} {o : Obj} (h : Kb a.heap.size (a.alloc o) b) : Gr a b := Below.trans ((Below.refl _ _).alloc (Nat.le_refl _) o) (Kb.below h (by simp))
theorem OB.cap {E : TypeId} {w : World} {base c : Nat} {A : Option Addr} {l : List UInt8} (h : OB E w base (.slice A l.length c) l) : l.length ≤ c ∧ c ≤ maxLen := by
  obtain ⟨A', c', e, h1, h2⟩ := OB.shape h
  injection e with _ _ e3
  subst e3
  exact ⟨h1, h2⟩
theorem wpList_store_blk {P : Program} {ops : Array Oper} {rest : List Oper} {o : Oper} {a : Act} {w : World} {Q : Exit → Act → World → Prop} (hgd : o.guard = none) (ty : TypeId) (x y : Operand) (ho : o.op = .store ty x y)
    (g : Nat) (cells : Array Value) (hx : a.eval x = .pointer (some ⟨g, 0, none⟩)) (hy : a.eval y = .agg cells)
    (t : TypeId) (old : Array Value) (hg : Blk w g t old) (hi : (P.info? ty).map (·.size) = some cells.size)
    (hold : old.size = cells.size) (h1 : cells.all (·.oneCell') = true)
    (h : ∀ w', Blk w' g t cells → Kb g w w' → w'.heap.size = w.heap.size → wpList P ops Q rest (a.put o.dst undef) w') : wpList P ops Q (o :: rest) a w :=
  wpList_store_row hgd ty x y ho g cells hx hy t old hg hi hold h1 (h _ (setRow_heap w g old cells t (0, 0) hg)
    ⟨rfl, rfl, rfl, by simp, fun k _ hk => setRow_other w g k cells (fun e => hk (by rw [e]))⟩ (by simp))
end Go.Proofs.Ytpkbdodclkgjpaa

