/- More steps for a region that draws its order: the length of a slice, an element of it, a slice literal of bytes, texts one behind the other, operations that are passed over. No condition. -/
import Derived.Test.YtpkbdodclkgjpaaGrow
set_option linter.unusedVariables false
set_option linter.unusedSimpArgs false
namespace Go.Proofs.Ytpkbdodclkgjpaa
open Go Go.RowKit W
/-- A pointer to a place that holds c. -/
def ptrTo (c : Value) : Ass := fun v w => ∃ ad : Addr, v = .pointer (some ad) ∧ ad.block < w.heap.size ∧ w.cell? ad = some c
theorem ptrTo_lasts (c : Value) : Lasts (ptrTo c) := fun _ _ _ hg ⟨ad, hv, h1, h2⟩ => ⟨ad, hv, Nat.lt_of_lt_of_le h1 hg.size, (hg.cell h1).trans h2⟩
section
variable {P : Program} {ops : Array Oper} {Q : Exit → Act → World → Prop} {a₀ : Act} {w₀ : World} {Φ : Nat → Ass} {i : Nat} {o : Oper}
/-- 'len(b)' -/
theorem GW.lenB {x : Operand} {T E : TypeId} (l : List UInt8) (ho : ops[i]? = some o) (hgd : GuardOK ops Φ i o) (hop : o.op = .call { callee := .builtin .len, args := #[x], argTypes := #[T] }) (hT : P.underlying T = some (.slice E))
    (hx : Knows ops Φ a₀ w₀ i x (isB l)) (hrest : GW P ops Q a₀ w₀ (setA Φ i (eqv (.int .i64 (l.length : Int)))) (i + 1)) : GW P ops Q a₀ w₀ Φ i :=
  GW.un (eqv (.int .i64 (l.length : Int))) ho hgd hx (eqv_lasts _) (fun a w _ ⟨A, c, hv, _, _, _⟩ => .here (by
    obtain ⟨dst, op, ty, pos, after, guard⟩ := o
    simp only at hop
    subst hop
    simp only [execOp, resolve, invoke, builtin, Sem.run_bind, Sem.run_pure, Result.andThen_ok, List.map_toArray, List.map_cons, List.map_nil, hv]
    simp [Builtin.len_, run_underlying hT, goInt]) rfl) hrest
/-- 'len(s)' -/
theorem GW.lenS {x : Operand} {T : TypeId} (l : List UInt8) (ho : ops[i]? = some o) (hgd : GuardOK ops Φ i o) (hop : o.op = .call { callee := .builtin .len, args := #[x], argTypes := #[T] }) (hT : P.underlying T = some .string)
    (hx : Knows ops Φ a₀ w₀ i x (eqv (str l))) (hrest : GW P ops Q a₀ w₀ (setA Φ i (eqv (.int .i64 (l.length : Int)))) (i + 1)) : GW P ops Q a₀ w₀ Φ i :=
  GW.un (eqv (.int .i64 (l.length : Int))) ho hgd hx (eqv_lasts _) (fun a w _ hv => .here (by
    have hv' : a.eval x = .string ⟨l.toArray⟩ := hv
    obtain ⟨dst, op, ty, pos, after, guard⟩ := o
    simp only at hop
    subst hop
    simp only [execOp, resolve, invoke, builtin, Sem.run_bind, Sem.run_pure, Result.andThen_ok, List.map_toArray, List.map_cons, List.map_nil, hv']
    have hsz : (⟨l.toArray⟩ : ByteArray).size = l.length := by simp [ByteArray.size]
    unfold Builtin.len_
    generalize (⟨l.toArray⟩ : ByteArray) = z at *
    simp [run_underlying hT, goInt, hsz]) rfl) hrest
/-- '&b[k]' -/
theorem GW.idxB {x y : Operand} {T E : TypeId} {i0 : TypeInfo} {kd : IntKind} (l : List UInt8) (k : Nat) (hk : k < l.length) (ho : ops[i]? = some o) (hgd : GuardOK ops Φ i o) (hop : o.op = .indexAddr T x y)
    (hT : P.underlying T = some (.slice E)) (hE : P.info? E = some i0) (h1 : i0.size = 1) (hx : Knows ops Φ a₀ w₀ i x (isB l)) (hy : Knows ops Φ a₀ w₀ i y (eqv (.int kd (k : Int))))
    (hrest : GW P ops Q a₀ w₀ (setA Φ i (ptrTo (.int .u8 (n8 l[k])))) (i + 1)) : GW P ops Q a₀ w₀ Φ i :=
  GW.bi (ptrTo (.int .u8 (n8 l[k]))) ho hgd hx hy (ptrTo_lasts _) (fun a w _ ⟨A, c, hv, _, _, hr⟩ hv2 => by
    have hv2' : a.eval y = .int kd (k : Int) := hv2
    obtain ⟨ad, rfl, hb, hc⟩ := hr.at_ hk
    refine .here (v := .pointer (some (ad.add k))) ?_ ⟨_, rfl, by rw [block_of_add]; exact hb, hc⟩
    have hk' : (0 : Int) ≤ (k : Int) ∧ (k : Int) < (l.length : Int) := ⟨by omega, by omega⟩
    obtain ⟨dst, op, ty, pos, after, guard⟩ := o
    simp only at hop
    subst hop
    simp only [execOp, hv, hv2', Instr.indexAt, asIntOf, Sem.run_bind, Sem.run_pure, run_underlying hT, Result.andThen_ok]
    rw [if_pos hk']
    simp [sizeOf, typeInfo, hE, h1]) hrest
/-- '*p' -/
theorem GW.ldP {x : Operand} {T : TypeId} {kd : IntKind} (n : Int) (ho : ops[i]? = some o) (hgd : GuardOK ops Φ i o) (hop : o.op = .load T x) (hT : P.underlying T = some (.int kd))
    (hx : Knows ops Φ a₀ w₀ i x (ptrTo (.int kd n))) (hrest : GW P ops Q a₀ w₀ (setA Φ i (eqv (.int kd n))) (i + 1)) : GW P ops Q a₀ w₀ Φ i :=
  GW.un (eqv (.int kd n)) ho hgd hx (eqv_lasts _) (fun a w _ ⟨ad, hv, _, hc⟩ => .here (by
    obtain ⟨dst, op, ty, pos, after, guard⟩ := o
    simp only at hop
    subst hop
    simp only [execOp, hv, Instr.loadAt]
    simp [go_sem, hc, isAgg, run_underlying hT, hT]) rfl) hrest
/-- '[]byte{c}' -/
theorem GW.byte1 {x : Operand} {T E : TypeId} {i0 : TypeInfo} (b : UInt8) (ho : ops[i]? = some o) (hgd : GuardOK ops Φ i o) (hop : o.op = .buildSlice T 1 #[(0, x)])
    (hT : P.underlying T = some (.slice E)) (hE : P.info? E = some i0) (h1 : i0.size = 1) (hz : i0.zero = some (.int .u8 0)) (hx : Knows ops Φ a₀ w₀ i x (eqv (.int .u8 (n8 b))))
    (hrest : GW P ops Q a₀ w₀ (setA Φ i (isB [b])) (i + 1)) : GW P ops Q a₀ w₀ Φ i :=
  GW.un (isB [b]) ho hgd hx (isB_lasts _) (fun a w _ hv => by
    have hv' : a.eval x = .int .u8 (n8 b) := hv
    refine .val (v := .slice (some ⟨w.heap.size, 0, none⟩) 1 1) (w' := w.alloc (.cells #[.int .u8 (n8 b)] E)) ?_ ((Gr.refl w).alloc _) ⟨_, 1, rfl, by simp, by unfold maxLen; omega, ?_⟩
    · have e1 : Array.range 1 = #[0] := rfl
      simp [execOp, hop, hv', Instr.buildSlice, run_underlying hT, sizeOf, typeInfo, hE, h1, zeroValue, hz, Value.cells, Instr.fill, newRow, e1]
    · have := RB.of_new w E [b] (0, 0)
      rw [World.size_alloc]
      exact this) hrest
/-- 's + t' -/
theorem GW.cat {x y : Operand} {t t' : TypeId} (l m : List UInt8) (hs : l.length + m.length ≤ 9223372036854775807) (ho : ops[i]? = some o) (hgd : GuardOK ops Φ i o) (hop : o.op = .binOp .add t x y t')
    (hx : Knows ops Φ a₀ w₀ i x (eqv (str l))) (hy : Knows ops Φ a₀ w₀ i y (eqv (str m))) (hrest : GW P ops Q a₀ w₀ (setA Φ i (eqv (str (l ++ m)))) (i + 1)) : GW P ops Q a₀ w₀ Φ i :=
  GW.bin (str (l ++ m)) ho hgd hop hx hy (fun w => by
    have h := run_string_add_sum (P := P) w ⟨l.toArray⟩ ⟨m.toArray⟩ (by simpa [ByteArray.size] using hs)
    have e : (⟨l.toArray⟩ : ByteArray) ++ ⟨m.toArray⟩ = ⟨(l ++ m).toArray⟩ := by rw [ByteArray.mk_append_mk]
    rw [e] at h
    rw [Sem.run_bind]
    have h0 : (eqGuard .add t x y (.string ⟨l.toArray⟩) (.string ⟨m.toArray⟩)).run P w = .ok () w := by simp [go_sem]
    rw [h0]
    exact h) hrest
/-- An operation on one operand that is known, and on memory as it was. -/
theorem GW.p1 {x : Operand} {c : Value} (v : Value) (ho : ops[i]? = some o) (hgd : GuardOK ops Φ i o) (hx : Knows ops Φ a₀ w₀ i x (eqv c))
    (h : ∀ (ρ : Operand → Value) (w : World), ρ x = c → Gr w₀ w → (execOp ρ o).run P w = .ok (.value v) w) (hrest : GW P ops Q a₀ w₀ (setA Φ i (eqv v)) (i + 1)) : GW P ops Q a₀ w₀ Φ i :=
  GW.un (eqv v) ho hgd hx (eqv_lasts v) (fun a w hg h1 => .here (h a.eval w h1 hg) rfl) hrest
theorem GW.p2 {x y : Operand} {c d : Value} (v : Value) (ho : ops[i]? = some o) (hgd : GuardOK ops Φ i o) (hx : Knows ops Φ a₀ w₀ i x (eqv c)) (hy : Knows ops Φ a₀ w₀ i y (eqv d))
    (h : ∀ (ρ : Operand → Value) (w : World), ρ x = c → ρ y = d → Gr w₀ w → (execOp ρ o).run P w = .ok (.value v) w) (hrest : GW P ops Q a₀ w₀ (setA Φ i (eqv v)) (i + 1)) : GW P ops Q a₀ w₀ Φ i :=
  GW.bi (eqv v) ho hgd hx hy (eqv_lasts v) (fun a w hg h1 h2 => .here (h a.eval w h1 h2 hg) rfl) hrest
/-- An operation on constants alone, or on memory as it was. -/
theorem GW.p0 (v : Value) (ho : ops[i]? = some o) (hgd : GuardOK ops Φ i o)
    (h : ∀ (ρ : Operand → Value) (w : World), (∀ c, ρ (.const c) = c) → Gr w₀ w → (execOp ρ o).run P w = .ok (.value v) w) (hrest : GW P ops Q a₀ w₀ (setA Φ i (eqv v)) (i + 1)) : GW P ops Q a₀ w₀ Φ i :=
  GW.op (eqv v) ho (eqv_lasts v) hgd (fun a w hg _ => .here (h a.eval w (fun _ => rfl) hg) rfl) hrest
/-- '*p', p's place known. -/
theorem GW.ldAt {x : Operand} {T : TypeId} {kd : IntKind} {ad : Addr} (n : Int) (ho : ops[i]? = some o) (hgd : GuardOK ops Φ i o) (hop : o.op = .load T x) (hT : P.underlying T = some (.int kd))
    (hx : Knows ops Φ a₀ w₀ i x (eqv (.pointer (some ad)))) (hc : w₀.cell? ad = some (.int kd n)) (hlt : ad.block < w₀.heap.size) (hrest : GW P ops Q a₀ w₀ (setA Φ i (eqv (.int kd n))) (i + 1)) : GW P ops Q a₀ w₀ Φ i :=
  GW.un (eqv (.int kd n)) ho hgd hx (eqv_lasts _) (fun a w hg hv => .here (by
    have hv' : a.eval x = .pointer (some ad) := hv
    have hc' := (hg.cell hlt).trans hc
    obtain ⟨dst, op, ty, pos, after, guard⟩ := o
    simp only at hop
    subst hop
    simp only [execOp, hv', Instr.loadAt]
    simp [go_sem, hc', isAgg, run_underlying hT, hT]) rfl) hrest
/-- 'len(b)' of a slice that is known as a value. -/
theorem GW.lenV {x : Operand} {T E : TypeId} {A : Option Addr} {n c : Nat} (ho : ops[i]? = some o) (hgd : GuardOK ops Φ i o) (hop : o.op = .call { callee := .builtin .len, args := #[x], argTypes := #[T] }) (hT : P.underlying T = some (.slice E))
    (hx : Knows ops Φ a₀ w₀ i x (eqv (.slice A n c))) (hrest : GW P ops Q a₀ w₀ (setA Φ i (eqv (.int .i64 (n : Int)))) (i + 1)) : GW P ops Q a₀ w₀ Φ i :=
  GW.un (eqv (.int .i64 (n : Int))) ho hgd hx (eqv_lasts _) (fun a w _ hv => .here (by
    have hv' : a.eval x = .slice A n c := hv
    obtain ⟨dst, op, ty, pos, after, guard⟩ := o
    simp only at hop
    subst hop
    simp only [execOp, resolve, invoke, builtin, Sem.run_bind, Sem.run_pure, Result.andThen_ok, List.map_toArray, List.map_cons, List.map_nil, hv']
    simp [Builtin.len_, run_underlying hT, goInt]) rfl) hrest
/-- '*p' of a whole block, p's place known. -/
theorem GW.ldRow {x : Operand} {T t : TypeId} {g : Nat} {cs : Array Value} {d : TypeDesc} (ho : ops[i]? = some o) (hgd : GuardOK ops Φ i o) (hop : o.op = .load T x) (hx : Knows ops Φ a₀ w₀ i x (eqv (.pointer (some ⟨g, 0, none⟩))))
    (hb : Blk w₀ g t cs) (hu : P.underlying T = some d) (hd : (match d with | .struct _ | .array _ _ => true | _ => false) = true) (hi : (P.info? T).map (·.size) = some cs.size) (hrest : GW P ops Q a₀ w₀ (setA Φ i (eqv (.agg cs))) (i + 1)) : GW P ops Q a₀ w₀ Φ i :=
  GW.un (eqv (.agg cs)) ho hgd hx (eqv_lasts _) (fun a w hg hv => .here (by
    have hv' : a.eval x = .pointer (some ⟨g, 0, none⟩) := hv
    have hb' := hb.below hg hb.lt
    obtain ⟨dst, op, ty, pos, after, guard⟩ := o
    simp only at hop
    subst hop
    simp only [execOp, hv', Instr.loadAt, Instr.sureAddr, Sem.run_bind, Sem.run_pure, Result.andThen_ok, run_loadVar_row w g t T cs (0, 0) d hb' hu hd hi]) rfl) hrest
theorem GW.call4 {x y z u : Operand} {ψ χ ξ ζ : Ass} {ats : Array TypeId} {f : FuncId} {fn : Func} (φ : Ass) (ho : ops[i]? = some o) (hgd : GuardOK ops Φ i o)
    (hop : o.op = .call { callee := .value (.func f), args := #[x, y, z, u], argTypes := ats }) (hf : P.funcs[f]? = some fn) (hn : (fn.name == "runtime.NumGoroutine") = false) (hb : fn.body.isNone = false) (hφ : Lasts φ)
    (hx : Knows ops Φ a₀ w₀ i x ψ) (hy : Knows ops Φ a₀ w₀ i y χ) (hz : Knows ops Φ a₀ w₀ i z ξ) (hu : Knows ops Φ a₀ w₀ i u ζ) (h : ∀ v u s r w, Gr w₀ w → ψ v w → χ u w → ξ s w → ζ r w → Calls P f #[v, u, s, r] w (Ret φ w)) (hrest : GW P ops Q a₀ w₀ (setA Φ i φ) (i + 1)) : GW P ops Q a₀ w₀ Φ i :=
  GW.call φ ho hgd hop hf hn hb hφ (fun a w hg hkn => by simpa using h _ _ _ _ w hg (hx a w hg hkn) (hy a w hg hkn) (hz a w hg hkn) (hu a w hg hkn)) hrest
theorem run_neq_int {P : Program} {k : IntKind} {a b : Int} (h : a = b) (T : TypeId) (x y : Operand) (w : World) : (do eqGuard .neq T x y (.int k a) (.int k b); binOp .neq T (.int k a) (.int k b) : Sem Value).run P w = .ok (.bool false) w := by
  subst h
  simp [go_sem]
theorem run_neq_str {P : Program} {a b : List UInt8} (h : a = b) (T : TypeId) (x y : Operand) (w : World) : (do eqGuard .neq T x y (.string ⟨a.toArray⟩) (.string ⟨b.toArray⟩); binOp .neq T (.string ⟨a.toArray⟩) (.string ⟨b.toArray⟩) : Sem Value).run P w = .ok (.bool false) w := by
  subst h
  simp [go_sem]
end
end Go.Proofs.Ytpkbdodclkgjpaa

