/- Texts that the law rests on, merged. No condition. -/
import Derived.Test.YteadcblmomngpaaJM1
import Derived.Test.YteadcblmomngpaaProg
import Derived.RangeFuncNested
import Derived.RangeFuncBound
import Derived.RangeFuncCalls
import Derived.RangeFuncLeaves
import Derived.Shelf.Abstract
import Derived.Shelf.RegionOpen
import Derived.WalkKit
import Derived.OwnWalkIn
import Derived.TacticsInMore
import Derived.LoopNIn
import Derived.LoopIn
import Derived.IntWalk
import Derived.BigQuiet
import Derived.Maps.OwnSet
import Derived.Maps.Views
import Derived.Lib.Bytealg
set_option linter.unusedVariables false
set_option linter.unusedSimpArgs false
namespace Go.Proofs.Yteadcblmomngpaa
open Go Go.RowKit W
/-- The parts of a value are known. -/
def KnowsL (ops : Array Oper) (Φ : Nat → Ass) (a₀ : Act) (w₀ : World) (i : Nat) : List (Nat × Operand) → List (Nat × Value) → Prop
  | [], [] => True
  | (n, x) :: xs, (m, c) :: cs => n = m ∧ Knows ops Φ a₀ w₀ i x (eqv c) ∧ KnowsL ops Φ a₀ w₀ i xs cs
  | _, _ => False
/-- A slice that reads as n rows. -/
def isR (size n : Nat) (xs : List Value) : Ass := fun v w => ∃ A c, v = .slice A n c ∧ Reads w w.heap.size size A n xs
theorem isR_lasts (size n : Nat) (xs : List Value) : Lasts (isR size n xs) := fun _ _ _ hg ⟨A, c, hv, hr⟩ => ⟨A, c, hv, Reads.more (Reads.below hr hg) hg.size⟩
section
variable {P : Program} {ops : Array Oper} {Q : Exit → Act → World → Prop} {a₀ : Act} {w₀ : World} {Φ : Nat → Ass} {i : Nat} {o : Oper}
theorem knowsL_eval {a : Act} {w : World} (hg : Gr w₀ w) (hk : ∀ t r, knownAt ops i t = some r → KnownAs Φ a₀ a w t r) : ∀ (xs : List (Nat × Operand)) (cs : List (Nat × Value)), KnowsL ops Φ a₀ w₀ i xs cs → xs.map (fun p => (p.1, a.eval p.2)) = cs
  | [], [], _ => rfl
  | (n, x) :: xs, (m, c) :: cs, ⟨h1, h2, h3⟩ => by
    rw [List.map_cons, knowsL_eval hg hk xs cs h3, h1]
    have := h2 a w hg hk
    unfold eqv at this
    simp only [this]
theorem GW.build {T : TypeId} {parts : Array (Nat × Operand)} (vals : Array (Nat × Value)) (v : Value) (ho : ops[i]? = some o) (hgd : GuardOK ops Φ i o) (hop : o.op = .build T parts)
    (hx : KnowsL ops Φ a₀ w₀ i parts.toList vals.toList) (hb : ∀ w, (Instr.build T vals).run P w = .ok v w) (hrest : GW P ops Q a₀ w₀ (setA Φ i (eqv v)) (i + 1)) : GW P ops Q a₀ w₀ Φ i :=
  GW.op (eqv v) ho (eqv_lasts v) hgd (fun a w hg hk => by
    refine .here ?_ rfl
    have e : parts.map (fun p => (p.1, a.eval p.2)) = vals := by
      apply Array.ext'
      rw [Array.toList_map]
      exact knowsL_eval hg hk _ _ hx
    obtain ⟨dst, op, ty, pos, after, guard⟩ := o
    simp only at hop
    subst hop
    show ((Instr.build T (parts.map fun p => (p.1, a.eval p.2)) >>= fun v => pure (Next.value v)) : Sem Next).run P w = _
    rw [e, Sem.run_bind, hb]
    rfl) hrest
/-- A new slice of one row. -/
theorem GW.row1 {x : Operand} {T E : TypeId} {size : Nat} (cs : Array Value) (hcs : cs.size = size) (ho : ops[i]? = some o) (hgd : GuardOK ops Φ i o) (hop : o.op = .buildSlice T 1 #[(0, x)])
    (hx : Knows ops Φ a₀ w₀ i x (eqv (.agg cs))) (hb : ∀ w, (Instr.buildSlice T 1 #[(0, .agg cs)]).run P w = .ok (.slice (some ⟨w.heap.size, 0, none⟩) 1 1) (w.alloc (.cells cs E)))
    (hrest : GW P ops Q a₀ w₀ (setA Φ i (isR size 1 cs.toList)) (i + 1)) : GW P ops Q a₀ w₀ Φ i :=
  GW.un (isR size 1 cs.toList) ho hgd hx (isR_lasts _ _ _) (fun a w _ hv => by
    have hv' : a.eval x = .agg cs := hv
    refine .val (v := .slice (some ⟨w.heap.size, 0, none⟩) 1 1) (w' := w.alloc (.cells cs E)) ?_ ((Gr.refl w).alloc _) ⟨_, 1, rfl, ?_⟩
    · obtain ⟨dst, op, ty, pos, after, guard⟩ := o
      simp only at hop
      subst hop
      unfold execOp
      simp only [List.map_toArray, List.map_cons, List.map_nil, hv', Sem.run_bind, hb, Result.andThen_ok, Sem.run_pure]
    · refine ⟨by simpa using hcs, fun _ => ⟨_, rfl, by simp, fun j u hu => ?_⟩⟩
      have ha : (⟨w.heap.size, 0, none⟩ : Addr).add j = ⟨w.heap.size, j, none⟩ := by unfold Addr.add; split <;> simp_all
      rw [ha, (Blk.new w E cs).cell]
      simpa using hu) hrest
end
section
variable {P : Program} {ops : Array Oper} {Q : Exit → Act → World → Prop} {a₀ : Act} {w₀ : World} {Φ : Nat → Ass} {i : Nat} {o : Oper}
/-- A new slice of n rows. -/
theorem GW.rowsN {T E : TypeId} {size n : Nat} {parts : Array (Nat × Operand)} (vals : Array (Nat × Value)) (cs : Array Value) (hcs : cs.size = n * size) (hn : 0 < n) (ho : ops[i]? = some o) (hgd : GuardOK ops Φ i o) (hop : o.op = .buildSlice T n parts)
    (hx : KnowsL ops Φ a₀ w₀ i parts.toList vals.toList) (hb : ∀ w, (Instr.buildSlice T n vals).run P w = .ok (.slice (some ⟨w.heap.size, 0, none⟩) n n) (w.alloc (.cells cs E)))
    (hrest : GW P ops Q a₀ w₀ (setA Φ i (isR size n cs.toList)) (i + 1)) : GW P ops Q a₀ w₀ Φ i :=
  GW.op (isR size n cs.toList) ho (isR_lasts _ _ _) hgd (fun a w hg hk => by
    refine .val (v := .slice (some ⟨w.heap.size, 0, none⟩) n n) (w' := w.alloc (.cells cs E)) ?_ ((Gr.refl w).alloc _) ⟨_, n, rfl, ?_⟩
    · have e : parts.map (fun p => (p.1, a.eval p.2)) = vals := by
        apply Array.ext'
        rw [Array.toList_map]
        exact knowsL_eval hg hk _ _ hx
      obtain ⟨dst, op, ty, pos, after, guard⟩ := o
      simp only at hop
      subst hop
      show ((Instr.buildSlice T n (parts.map fun p => (p.1, a.eval p.2)) >>= fun v => pure (Next.value v)) : Sem Next).run P w = _
      rw [e, Sem.run_bind, hb]
      rfl
    · refine ⟨by simpa using hcs, fun _ => ⟨_, rfl, by simp, fun j u hu => ?_⟩⟩
      have ha : (⟨w.heap.size, 0, none⟩ : Addr).add j = ⟨w.heap.size, j, none⟩ := by unfold Addr.add; split <;> simp_all
      rw [ha, (Blk.new w E cs).cell]
      simpa using hu) hrest
end
/-- 'l[k]', its place. -/
theorem run_idxR {P : Program} (w : World) {T E : TypeId} {size : Nat} (hT : P.underlying T = some (.slice E)) (hi : (P.info? E).map (·.size) = some size) (ad : Addr) (n c k : Nat) (hk : k < n) :
    (Instr.indexAt T (.slice (some ad) n c) (.int .i64 (k : Int))).run P w = .ok (.pointer (some (ad.add (k * size)))) w := by
  obtain ⟨i, hi', rfl⟩ : ∃ i, P.info? E = some i ∧ i.size = size := by
    cases h : P.info? E with
    | none => simp [h] at hi
    | some i => exact ⟨i, rfl, by simpa [h] using hi⟩
  have hk' : (0 : Int) ≤ (k : Int) ∧ (k : Int) < (n : Int) := ⟨by omega, by omega⟩
  simp only [Instr.indexAt, asIntOf, Sem.run_bind, Sem.run_pure, run_underlying hT, Result.andThen_ok]
  rw [if_pos hk']
  simp [sizeOf, typeInfo, hi']
/-- wpList_append_rows for an operation without guard (a guard's 'rfl' may be dear). -/
theorem wpList_append_rowsN {P : Program} {E : TypeId} {size base n : Nat} {v : Value} {xs : List Value} {w : World} {ops : Array Oper} {rest : List Oper} {o : Oper} {a : Act} {Q : Exit → Act → World → Prop} (hgd : o.guard = none) (s x : Operand) (T : TypeId)
    (ho : o.op = .call { callee := .builtin .append, args := #[s, x], argTypes := #[T, T] }) {bytes : Nat} (ht : P.underlying T = some (.slice E)) (hE : RowType P E size bytes) (hs : a.eval s = v) (hown : OR E size w base v n xs)
    (B : Nat) (A : Option Addr) (m c : Nat) (news : List Value) (hx : a.eval x = .slice A m c) (hr : Reads w B size A m news) (h1 : ∀ u ∈ news, u.oneCell' = true) (hlen : n + m ≤ maxLen) (hby : (n + m) * bytes ≤ 140737488355328) (hbase : base ≤ w.heap.size)
    (L : List Value) (hL : L = xs ++ news) (k : Nat) (hk : k = n + m) (h : ∀ A' c' w', OR E size w' base (.slice A' k c') k L → Below base w w' → wpList P ops Q rest (a.put o.dst (.slice A' k c')) w') : wpList P ops Q (o :: rest) a w :=
  wpList_append_rows (by simp [Region.wanted, hgd]) s x T ho ht hE hs hown B A m c news hx hr h1 hlen hby hbase L hL k hk h
/-- Is it this append? (Said ahead of the law, with_reducible, so that all other operations are passed by quickly.) -/
theorem wpList_isApp {P : Program} {w : World} {ops : Array Oper} {rest : List Oper} {o : Oper} {a : Act} {Q : Exit → Act → World → Prop} (s x : Operand) (T : TypeId)
    (ho : o.op = .call { callee := .builtin .append, args := #[s, x], argTypes := #[T, T] }) (h : wpList P ops Q (o :: rest) a w) : wpList P ops Q (o :: rest) a w := h
theorem wpList_isStore {P : Program} {w : World} {ops : Array Oper} {rest : List Oper} {o : Oper} {a : Act} {Q : Exit → Act → World → Prop} (T : TypeId) (x y : Operand)
    (ho : o.op = .store T x y) (h : wpList P ops Q (o :: rest) a w) : wpList P ops Q (o :: rest) a w := h
/-! ### appending to an empty slice -/
theorem OR.base_le {E : TypeId} {size n B base : Nat} {w : World} {v : Value} {xs : List Value} (h : OR E size w B v n xs) (hb : base ≤ B) : OR E size w base v n xs := by
  refine ⟨h.1, ?_⟩
  rcases h.2 with h | ⟨g, cap, cur, hv, hg, r⟩
  · exact .inl h
  · exact .inr ⟨g, cap, cur, hv, by omega, r⟩
theorem run_append_empty {P : Program} {w : World} {E : TypeId} {size base g : Nat} (T ty : TypeId) {bytes : Nat} (ht : P.underlying T = some (.slice E)) (hE : RowType P E size bytes) (hown : OR E size w base (.slice (some ⟨g, 0, none⟩) 0 0) 0 [])
    (B : Nat) (A : Option Addr) (m c : Nat) (news : List Value) (hr : Reads w B size A m news) (h1 : ∀ u ∈ news, u.oneCell' = true) (hlen : m ≤ maxLen) (hby : m * bytes ≤ 140737488355328) (hbase : base ≤ w.heap.size) :
    ∃ A' c' w', (Builtin.append_ #[T, T] ty #[.slice (some ⟨g, 0, none⟩) 0 0, .slice A m c]).run P w = .ok (.slice A' m c') w' ∧ OR E size w' base (.slice A' m c') m news ∧ Gr w w' := by
  obtain ⟨A', c', w', hrun, ho, _⟩ := run_append_rows (P := P) T ty ht hE hown B A m c news hr h1 (by omega) (by simpa using hby) hbase
  simp only [Nat.zero_add, List.nil_append] at hrun ho
  refine ⟨A', c', w', hrun, ho, ?_⟩
  obtain ⟨i, z, hi, hz, h2, h3, h4, h5⟩ := hE
  rcases Nat.eq_zero_or_pos m with h0 | h0
  · subst h0
    have hn : news = [] := List.eq_nil_of_length_eq_zero (by simpa using hr.1)
    have e : (Builtin.append_ #[T, T] ty #[.slice (some ⟨g, 0, none⟩) 0 0, .slice A 0 c]).run P w = .ok (.slice (some ⟨g, 0, none⟩) 0 0) w := by
      cases A <;> simp [Builtin.append_, run_underlying ht, sizeOf, typeInfo, hi, Builtin.lenOf, Builtin.firstCells, storeCells, loadCells, loadCellsFrom]
    rw [e] at hrun
    injection hrun with _ hw
    rw [← hw]
    exact Gr.refl w
  · obtain ⟨ad, hA, _, hc⟩ := hr.2 h0
    subst hA
    have hnc : Builtin.nextslicecap m 0 = m := nextslicecap_zero h0
    have e := run_append_grow (P := P) w T ty E i z ht hi hz ⟨g, 0, none⟩ 0 0 [] (by simp) (by simp) ad m c news (by rw [h2]; exact hr.1) hc (by omega) (by simp only [Nat.zero_add]; unfold maxLen at hlen; omega) (by simp only [Nat.zero_add]; rw [hnc, h3]; omega)
    rw [e] at hrun
    injection hrun with _ hw
    rw [← hw]
    exact (Gr.refl w).drew.alloc _
/-- An own slice, of blocks from base on. -/
def isOR (E : TypeId) (size base n : Nat) (xs : List Value) : Ass := fun v w => ∃ A c, v = .slice A n c ∧ OR E size w base (.slice A n c) n xs
theorem isOR_lasts (E : TypeId) (size base n : Nat) (xs : List Value) : Lasts (isOR E size base n xs) := fun _ _ _ hg ⟨A, c, hv, hr⟩ => ⟨A, c, hv, OR.below hr hg⟩
def isOE (E : TypeId) (size base : Nat) : Ass := fun v w => ∃ g, v = .slice (some ⟨g, 0, none⟩) 0 0 ∧ OR E size w base (.slice (some ⟨g, 0, none⟩) 0 0) 0 []
theorem isOE_lasts (E : TypeId) (size base : Nat) : Lasts (isOE E size base) := fun _ _ _ hg ⟨g, hv, hr⟩ => ⟨g, hv, OR.below hr hg⟩
section
variable {P : Program} {ops : Array Oper} {Q : Exit → Act → World → Prop} {a₀ : Act} {w₀ : World} {Φ : Nat → Ass} {i : Nat} {o : Oper}
/-- '[]T{}' -/
theorem GW.empty {T E : TypeId} {size base : Nat} (hb : base ≤ w₀.heap.size) (ho : ops[i]? = some o) (hgd : GuardOK ops Φ i o) (hop : o.op = .buildSlice T 0 #[])
    (hr : ∀ w, (Instr.buildSlice T 0 #[]).run P w = .ok (.slice (some ⟨w.heap.size, 0, none⟩) 0 0) (w.alloc (.cells #[] E)))
    (hrest : GW P ops Q a₀ w₀ (setA Φ i (isOE E size base)) (i + 1)) : GW P ops Q a₀ w₀ Φ i :=
  GW.op (isOE E size base) ho (isOE_lasts _ _ _) hgd (fun a w hg _ => by
    refine .val (v := .slice (some ⟨w.heap.size, 0, none⟩) 0 0) (w' := w.alloc (.cells #[] E)) ?_ ((Gr.refl w).alloc _) ⟨_, rfl, by simp, .inr ⟨w.heap.size, 0, #[], rfl, Nat.le_trans hb hg.size, heap_alloc_new w _, Nat.le_refl _, by unfold maxLen; omega, by simp, by simp⟩⟩
    obtain ⟨dst, op, ty, pos, after, guard⟩ := o
    simp only at hop
    subst hop
    unfold execOp
    simp only [List.map_toArray, List.map_nil, Sem.run_bind, hr, Result.andThen_ok, Sem.run_pure]) hrest
/-- append to an empty slice -/
theorem GW.appE {s x : Operand} {T E : TypeId} {size bytes base n : Nat} {xs : List Value} {B : Nat} (ho : ops[i]? = some o) (hgd : GuardOK ops Φ i o) (hop : o.op = .call { callee := .builtin .append, args := #[s, x], argTypes := #[T, T] })
    (ht : P.underlying T = some (.slice E)) (hE : RowType P E size bytes) (hx : Knows ops Φ a₀ w₀ i s (isOE E size base)) (hy : Knows ops Φ a₀ w₀ i x (isOR E size B n xs)) (h1 : ∀ u ∈ xs, u.oneCell' = true) (hlen : n ≤ maxLen) (hby : n * bytes ≤ 140737488355328) (hb : base ≤ w₀.heap.size)
    (hrest : GW P ops Q a₀ w₀ (setA Φ i (isOR E size base n xs)) (i + 1)) : GW P ops Q a₀ w₀ Φ i :=
  GW.bi (isOR E size base n xs) ho hgd hx hy (isOR_lasts _ _ _ _ _) (fun a w hg ⟨g, hv, hog⟩ ⟨A, c, hu, hr⟩ => by
    obtain ⟨A', c', w', hrun, h2, h3⟩ := run_append_empty (P := P) T o.type ht hE hog w.heap.size A n c xs hr.reads h1 hlen hby (Nat.le_trans hb hg.size)
    refine .val (v := .slice A' n c') (w' := w') ?_ h3 ⟨A', c', rfl, h2⟩
    unfold execOp
    simp only [hop, resolve, invoke, builtin, Sem.run_bind, Sem.run_pure, Result.andThen_ok, List.map_toArray, List.map_cons, List.map_nil, hv, hu, hrun]) hrest
end
end Go.Proofs.Yteadcblmomngpaa
namespace Go.Proofs.Yteadcblmomngpaa
open Go Go.RowKit W
namespace Vint
theorem byteType : ByteType Try.prog 5 := ⟨by kernel_rfl, by kernel_rfl⟩
theorem low7 (n : UInt64) : n.toUInt8 ||| 128 = UInt8.ofNat (n.toNat % 128 + 128) := by
  apply UInt8.toNat_inj.1
  rw [UInt8.toNat_or]
  have e : n.toUInt8.toNat = n.toNat % 256 := by simp
  rw [e]
  have h : ∀ k, k < 256 → k ||| 128 = k % 128 + 128 := by decide +kernel
  have h2 := h (n.toNat % 256) (by omega)
  show n.toNat % 256 ||| 128 = _
  rw [h2, UInt8.toNat_ofNat']
  omega
theorem last7 (n : UInt64) (h : n.toNat < 128) : n.toUInt8 = UInt8.ofNat n.toNat := by
  apply UInt8.toNat_inj.1
  simp
set_option maxRecDepth 100000 in
set_option maxHeartbeats 1000000 in
theorem vnum_any (A : Option Addr) (c : Nat) (l : List UInt8) (n0 : UInt64) (w : World) (hs : l.length ≤ 100000000000000) (hr : RB w w.heap.size A l) :
    Calls Try.prog 45 #[.slice A l.length c, .int .u64 (n64 n0)] w (Out 5 w (l ++ num n0.toNat)) := by
  have hn0 : (num n0.toNat).length ≤ 10 := num_length 9 _ (Nat.lt_of_lt_of_le n0.toNat_lt (by decide))
  have hown0 := Lib.hid (OB.made (E := 5) (base := w.heap.size) w (Nat.le_refl _))
  have hr0 := Lib.hid (hr.alloc (Nat.le_refl _) (.cells #[] 5))
  have hg0 := Lib.hid ((Gr.refl w).alloc (.cells #[] 5))
  clear hr
  go_enter Try.func45, Try.ntmps45
  go_wp2_with (first
    | (refine wpList_append_bytes _ rfl (.tmp 6) (.tmp 7) 63 rfl w.heap.size 5 Try.underlying63 byteType _ [] rfl (by exact hown0.out) w.heap.size _ _ _ l rfl rfl (by exact hr0.out) (by simp; omega) (by simp) l rfl l.length rfl ?_; intro A1 c1 w1 hown1 hbel1)
    | (refine step_append_bytes _ rfl (.tmp 6) (.tmp 7) 63 rfl w.heap.size 5 Try.underlying63 byteType _ [] rfl (by exact hown0.out) w.heap.size _ _ _ l rfl rfl (by exact hr0.out) (by simp; omega) (by simp) l rfl l.length rfl ?_; intro A1 c1 w1 hown1 hbel1))
  go_loopw [1, 5] (fun x b wr => ∃ (n : UInt64) (o : List UInt8), x = .int .u64 (n64 n) ∧ OB 5 wr w.heap.size b o ∧ Gr w wr ∧ o.length ≤ l.length + 10 ∧ Hid (o ++ num n.toNat = l ++ num n0.toNat)) (fun x _ _ => (intOf x).toNat)
  case atStart => exact ⟨n0, l, rfl, hown1, Below.trans hg0.out hbel1, by omega, Lib.hid rfl⟩
  case round =>
    obtain ⟨n, o, rfl, hown, hg, hol, ho⟩ := hrel
    clear hown1 hbel1 hown0 hr0 hg0
    obtain ⟨A0, c0, rfl, hcl, hcm⟩ := hown.shape
    have hgs := hg.size
    have hon : o.length + (num n.toNat).length = l.length + (num n0.toNat).length := by
      have := congrArg List.length ho.out
      rwa [List.length_append, List.length_append] at this
    have hnp := num_pos n.toNat
    by_cases h : 128 ≤ n.toNat
    · have hn : (128 : Int) ≤ n64 n := by unfold n64; omega
      have ho2 : Hid ((o ++ [n.toUInt8 ||| 128]) ++ num (n / 128).toNat = l ++ num n0.toNat) := by
        have h1 := ho.out
        rw [num_big (by omega)] at h1
        rw [low7, UInt64.toNat_div, List.append_assoc]
        exact Lib.hid h1
      have hown2 := Lib.hid (hown.alloc (.cells #[.int .u8 (n8 (n.toUInt8 ||| 128))] 5))
      have hg2 := Lib.hid (Below.alloc hg hgs (.cells #[.int .u8 (n8 (n.toUInt8 ||| 128))] 5))
      have hrb := Lib.hid (RB.new1 wr 5 (n.toUInt8 ||| 128))
      have hmeas : (intOf (.int .u64 (n64 (n / 128)))).toNat < (intOf (.int .u64 (n64 n))).toNat := by
        simp [intOf, n64, UInt64.toNat_div]
        omega
      replace hmeas := Lib.hid hmeas
      clear hown hg ho
      go_wp2_with (first
    | (refine wpList_append_bytes _ rfl (.tmp 11) (.tmp 15) 63 rfl w.heap.size 5 Try.underlying63 byteType _ o rfl (by exact hown2.out) (wr.heap.size + 1) _ _ _ [n.toUInt8 ||| 128] rfl rfl (by exact hrb.out) (by simp; omega) (by simp; omega) (o ++ [n.toUInt8 ||| 128]) rfl (o ++ [n.toUInt8 ||| 128]).length rfl ?_; intro A3 c3 w3 hown4 hbel4)
    | (refine step_append_bytes _ rfl (.tmp 11) (.tmp 15) 63 rfl w.heap.size 5 Try.underlying63 byteType _ o rfl (by exact hown2.out) (wr.heap.size + 1) _ _ _ [n.toUInt8 ||| 128] rfl rfl (by exact hrb.out) (by simp; omega) (by simp; omega) (o ++ [n.toUInt8 ||| 128]) rfl (o ++ [n.toUInt8 ||| 128]).length rfl ?_; intro A3 c3 w3 hown4 hbel4))
      go_roundw
      case rel =>
        have h4 := hown4
        rw [List.length_append] at h4
        exact ⟨n / 128, _, by go_num, h4, Below.trans hg2.out hbel4, by simp; omega, ho2⟩
      case measure => exact hmeas.out
    · have hn : ¬ (128 : Int) ≤ n64 n := by unfold n64; omega
      have ho2 : Hid (o ++ [n.toUInt8] = l ++ num n0.toNat) := by
        have h1 := ho.out
        rw [num_small (by omega)] at h1
        rw [last7 n (by omega)]
        exact Lib.hid h1
      have hown2 := Lib.hid (hown.alloc (.cells #[.int .u8 (n8 (n.toUInt8))] 5))
      have hg2 := Lib.hid (Below.alloc hg hgs (.cells #[.int .u8 (n8 (n.toUInt8))] 5))
      have hrb := Lib.hid (RB.new1 wr 5 n.toUInt8)
      clear hown hg ho
      go_wp2_with (first
    | (refine wpList_append_bytes _ rfl (.tmp 19) (.tmp 22) 63 rfl w.heap.size 5 Try.underlying63 byteType _ o rfl (by exact hown2.out) (wr.heap.size + 1) _ _ _ [n.toUInt8] rfl rfl (by exact hrb.out) (by simp; omega) (by simp; omega) (o ++ [n.toUInt8]) rfl (o ++ [n.toUInt8]).length rfl ?_; intro A3 c3 w3 hown4 hbel4)
    | (refine step_append_bytes _ rfl (.tmp 19) (.tmp 22) 63 rfl w.heap.size 5 Try.underlying63 byteType _ o rfl (by exact hown2.out) (wr.heap.size + 1) _ _ _ [n.toUInt8] rfl rfl (by exact hrb.out) (by simp; omega) (by simp; omega) (o ++ [n.toUInt8]) rfl (o ++ [n.toUInt8]).length rfl ?_; intro A3 c3 w3 hown4 hbel4))
      go_ret
      rw [← ho2.out]
      exact ⟨A3, c3, by rw [List.length_append]; rfl, hown4, Below.trans hg2.out hbel4⟩
set_option maxRecDepth 100000 in
set_option maxHeartbeats 1000000 in
theorem vtext_any (A : Option Addr) (c : Nat) (l s : List UInt8) (w : World) (hs : l.length ≤ 10000000000000) (hs2 : s.length ≤ 10000000000000) (hr : RB w w.heap.size A l) :
    Calls Try.prog 44 #[.slice A l.length c, str s] w (Out 5 w (l ++ text s)) := by
  have hsn : (UInt64.ofNat s.length).toNat = s.length := by rw [UInt64.toNat_ofNat']; omega
  have hnl : (num s.length).length ≤ 10 := num_length 9 _ (Nat.lt_of_le_of_lt hs2 (by decide))
  have hc := Lib.hid (by have h := vnum_any A c l (UInt64.ofNat s.length) w (by omega) hr; rw [hsn] at h; exact h : Calls Try.prog 45 #[.slice A l.length c, .int .u64 (n64 (UInt64.ofNat s.length))] w (Out 5 w (l ++ num s.length)))
  clear hr hsn
  go_enter Try.func44, Try.ntmps44
  go_wp2_with fail
  refine hc.out.mono ?_
  rintro e w1 ⟨A1, c1, rfl, hown1, hg1⟩
  have hsz := hg1.size
  clear hc
  obtain ⟨L, hL⟩ : ∃ L, L = l ++ num s.length := ⟨_, rfl⟩
  have hLl : L.length ≤ l.length + 10 := by rw [hL, List.length_append]; omega
  have hfin : Hid (l ++ text s = L ++ s) := by rw [hL]; unfold text; rw [List.append_assoc]; exact Lib.hid rfl
  rw [← hL] at hown1 ⊢
  clear hL
  go_wp2_with (first
    | (refine wpList_append_text rfl (.tmp 9) (.tmp 10) 63 9 rfl w.heap.size 5 Try.underlying63 Try.underlying9 byteType _ L rfl (by exact hown1) s rfl (by omega) (by omega) (L ++ s) rfl (L ++ s).length rfl ?_; intro A3 c3 w3 hown4 hbel4)
    | (refine step_append_text rfl (.tmp 9) (.tmp 10) 63 9 rfl w.heap.size 5 Try.underlying63 Try.underlying9 byteType _ L rfl (by exact hown1) s rfl (by omega) (by omega) (L ++ s) rfl (L ++ s).length rfl ?_; intro A3 c3 w3 hown4 hbel4))
  go_ret
  rw [hfin.out]
  exact ⟨A3, c3, by rw [List.length_append]; rfl, hown4, Below.trans hg1 hbel4⟩
/-! ### sums -/
theorem shr_be (z : UInt64) (i : Nat) (h : i < 8) : UInt8.ofInt (n64 z / 2 ^ (56 - 8 * i)) = UInt8.ofNat (z.toNat / 256 ^ (7 - i)) := by
  have e2 : (2 : Nat) ^ (56 - 8 * i) = 256 ^ (7 - i) := by rw [show 56 - 8 * i = 8 * (7 - i) by omega, Nat.pow_mul]
  have e : n64 z / 2 ^ (56 - 8 * i) = ((z.toNat / 2 ^ (56 - 8 * i) : Nat) : Int) := by unfold n64; simp
  rw [e, e2, w_ofNat_u8]
def bep (z : UInt64) (k : Nat) : List UInt8 := (List.range k).map fun i => UInt8.ofNat (z.toNat / 256 ^ (7 - i))
theorem bep_succ (z : UInt64) (k : Nat) : bep z (k + 1) = bep z k ++ [UInt8.ofNat (z.toNat / 256 ^ (7 - k))] := by simp [bep, List.range_succ]
theorem bep_length (z : UInt64) (k : Nat) : (bep z k).length = k := by simp [bep]
theorem fl_length (ws : List UInt64) (k : Nat) : ((ws.take k).flatMap be8).length ≤ 8 * k := by
  have : ∀ l : List UInt64, (l.flatMap be8).length = 8 * l.length := by
    intro l
    induction l with
    | nil => rfl
    | cons x l ih => rw [List.flatMap_cons, List.length_append, ih, be8_length, List.length_cons]; omega
  rw [this, List.length_take]
  omega
theorem fl_succ {ws : List UInt64} {k : Nat} (h : k < ws.length) : (ws.take (k + 1)).flatMap be8 = (ws.take k).flatMap be8 ++ bep ws[k] 8 := by
  rw [List.take_succ_eq_append_getElem h, List.flatMap_append]
  simp [bep, be8]
set_option maxRecDepth 100000 in
set_option maxHeartbeats 2000000 in
theorem vsum_any (A : Option Addr) (c : Nat) (l : List UInt8) (x y : UInt64) (w : World) (hs : l.length ≤ 100000000000000) (hr : RB w w.heap.size A l) :
    Calls Try.prog 46 #[.slice A l.length c, .agg #[.int .u64 (n64 x), .int .u64 (n64 y)]] w (Out 5 w (l ++ sum x y)) := by
  obtain ⟨ws, hws⟩ : ∃ ws, ws = [x, y] := ⟨_, rfl⟩
  have hwl : ws.length = 2 := by rw [hws]; rfl
  obtain ⟨j0, hj0, _, hj1, _⟩ := info_parts (show (Try.prog.info? 28).map (fun i => (i.zero, i.size, i.bytes)) = some (some (.int .u64 0), 1, 8) by kernel_rfl)
  have hidx : ∀ (k : Nat) (h : k < ws.length) (w' : World), (Instr.index 93 (.agg #[.int .u64 (n64 x), .int .u64 (n64 y)]) (.int .i64 (k : Int))).run Try.prog w' = .ok (.int .u64 (n64 ws[k])) w' := fun k h w' => by
    refine run_index_arr w' Try.underlying93 Try.underlying28 hj0 hj1 _ k (by omega) _ ?_
    subst hws
    match k, h with
    | 0, _ => rfl
    | 1, _ => rfl
  have hfin : Hid (l ++ sum x y = l ++ (ws.take 2).flatMap be8) := by rw [hws]; exact Lib.hid (by simp [sum])
  have hsum := hfin
  replace hws := Lib.hid hws
  replace hidx := Lib.hid hidx
  have hb0 := Blk.new w 30 #[.int .u64 (n64 x), .int .u64 (n64 y)]
  have hb1 := hb0.alloc (.cells #[] 5)
  have hown0 := OB.made (E := 5) (base := w.heap.size + 1) (w.alloc (.cells #[.int .u64 (n64 x), .int .u64 (n64 y)] 30)) (by simp)
  rw [World.size_alloc] at hown0
  have hr0 := Lib.hid ((hr.alloc (Nat.le_refl _) (.cells #[.int .u64 (n64 x), .int .u64 (n64 y)] 30)).alloc (by simp) (.cells #[] 5))
  have hg0 := Lib.hid (((Gr.refl w).alloc (.cells #[.int .u64 (n64 x), .int .u64 (n64 y)] 30)).alloc (.cells #[] 5))
  replace hown0 := Lib.hid hown0
  have hbx := Lib.hid hb1
  clear hr hb0 hb1
  go_enter Try.func46, Try.ntmps46
  go_wp2_with (first
    | (refine wpList_append_bytes _ rfl (.tmp 9) (.tmp 10) 63 rfl (w.heap.size + 1) 5 Try.underlying63 byteType _ [] rfl (by exact hown0.out) w.heap.size _ _ _ l rfl rfl (by exact hr0.out) (by simp; omega) (by simp) l rfl l.length rfl ?_; intro A1 c1 w1 hown1 hbel1; have hb1 := hbx.out.below hbel1 (by omega); have q0 := hb1.cell 0; have q1 := hb1.cell 1; replace hb1 := Lib.hid hb1)
    | (refine step_append_bytes _ rfl (.tmp 9) (.tmp 10) 63 rfl (w.heap.size + 1) 5 Try.underlying63 byteType _ [] rfl (by exact hown0.out) w.heap.size _ _ _ l rfl rfl (by exact hr0.out) (by simp; omega) (by simp) l rfl l.length rfl ?_; intro A1 c1 w1 hown1 hbel1; have hb1 := hbx.out.below hbel1 (by omega); have q0 := hb1.cell 0; have q1 := hb1.cell 1; replace hb1 := Lib.hid hb1))
  have hg1 : Below w.heap.size w w1 := Below.trans hg0.out (Below.mono hbel1 (Nat.le_succ _))
  have hs1 : w.heap.size + 1 ≤ w1.heap.size := by have := hbel1.size; simp at this; omega
  go_loopw [5, 17] (fun b i wr => ∃ (k : Nat) (o : List UInt8), k ≤ 2 ∧ i = .int .i64 k ∧ OB 5 wr (w.heap.size + 1) b o ∧ Below w.heap.size w wr ∧ w.heap.size + 1 ≤ wr.heap.size ∧ Hid (o = l ++ (ws.take k).flatMap be8)) (fun _ i _ => 2 - (intOf i).toNat)
  case atStart => exact ⟨0, l, by omega, rfl, hown1, hg1, hs1, Lib.hid (by simp)⟩
  case round =>
    obtain ⟨k, o, hk, rfl, hown, hg, hsz, ho⟩ := hrel
    clear hown1 hg1 hs1 hb1 q0 q1 hbel1
    have hol : o.length ≤ l.length + 8 * k := by rw [ho.out, List.length_append]; have := fl_length ws k; omega
    obtain ⟨A0, c0, rfl, hcl, hcm⟩ := hown.shape
    replace hown := Lib.hid hown
    replace hg := Lib.hid hg
    by_cases h : k < 2
    · have hk2 : k < ws.length := by omega
      have hid : ∀ w', (Instr.index 93 (.agg #[.int .u64 (n64 x), .int .u64 (n64 y)]) (.int .i64 (k : Int))).run Try.prog w' = .ok (.int .u64 (n64 ws[k])) w' := hidx.out k hk2
      have hsn := Lib.hid (fl_succ hk2)
      generalize ws[k] = z at *
      have hki : (k : Int) < 2 := by omega
      go_wp2
      rename_i wo _
      replace h := Lib.hid h
      replace hk2 := Lib.hid hk2
      replace hwl := Lib.hid hwl
      go_loopw [5, 20] (fun b j wr => ∃ (i : Nat) (o2 : List UInt8), i ≤ 8 ∧ j = .int .i64 i ∧ OB 5 wr (w.heap.size + 1) b o2 ∧ Below w.heap.size w wr ∧ w.heap.size + 1 ≤ wr.heap.size ∧ Hid (o2 = o ++ bep z i)) (fun _ j _ => 8 - (intOf j).toNat)
      case atStart => exact ⟨0, o, by omega, rfl, hown.out, hg.out, hsz, Lib.hid (by simp [bep])⟩
      case round =>
        obtain ⟨i, o2, hi, rfl, hown2, hg2, hsz2, ho2⟩ := hrel
        clear hown hg hid
        have hol2 : o2.length ≤ l.length + 24 := by rw [ho2.out, List.length_append, bep_length]; omega
        obtain ⟨A2, c2, rfl, hcl2, hcm2⟩ := hown2.shape
        by_cases h8 : i < 8
        · have ho3 : Hid (o2 ++ [UInt8.ofInt (n64 z / 2 ^ (56 - 8 * i))] = o ++ bep z (i + 1)) := by rw [ho2.out, bep_succ, List.append_assoc, shr_be z i h8]; exact Lib.hid rfl
          have hown3 := Lib.hid (hown2.alloc (.cells #[.int .u8 (n8 (UInt8.ofInt (n64 z / 2 ^ (56 - 8 * i))))] 5))
          have hg3 := Lib.hid (Below.alloc hg2 (by omega) (.cells #[.int .u8 (n8 (UInt8.ofInt (n64 z / 2 ^ (56 - 8 * i))))] 5))
          have hrb := Lib.hid (RB.new1 wr 5 (UInt8.ofInt (n64 z / 2 ^ (56 - 8 * i))))
          clear ho2 hown2 hg2
          go_wp2_with (first
    | (refine wpList_append_bytes _ rfl (.tmp 23) (.tmp 30) 63 rfl (w.heap.size + 1) 5 Try.underlying63 byteType _ o2 rfl (by exact hown3.out) (wr.heap.size + 1) _ _ _ [UInt8.ofInt (n64 z / 2 ^ (56 - 8 * i))] rfl rfl (by exact hrb.out) (by simp; omega) (by simp; omega) (o2 ++ [UInt8.ofInt (n64 z / 2 ^ (56 - 8 * i))]) rfl (o2 ++ [UInt8.ofInt (n64 z / 2 ^ (56 - 8 * i))]).length rfl ?_; intro A3 c3 w3 hown4 hbel4)
    | (refine step_append_bytes _ rfl (.tmp 23) (.tmp 30) 63 rfl (w.heap.size + 1) 5 Try.underlying63 byteType _ o2 rfl (by exact hown3.out) (wr.heap.size + 1) _ _ _ [UInt8.ofInt (n64 z / 2 ^ (56 - 8 * i))] rfl rfl (by exact hrb.out) (by simp; omega) (by simp; omega) (o2 ++ [UInt8.ofInt (n64 z / 2 ^ (56 - 8 * i))]) rfl (o2 ++ [UInt8.ofInt (n64 z / 2 ^ (56 - 8 * i))]).length rfl ?_; intro A3 c3 w3 hown4 hbel4))
          have hs3 := hbel4.size
          rw [World.size_alloc] at hs3
          go_roundw
          case rel =>
            have h4 := hown4
            rw [List.length_append] at h4
            exact ⟨i + 1, _, by omega, by go_num, h4, Below.trans hg3.out (Below.mono hbel4 (Nat.le_succ _)), by omega, ho3⟩
          case measure => simp [intOf]; omega
        · obtain rfl : i = 8 := by omega
          replace hown2 := Lib.hid hown2
          replace hg2 := Lib.hid hg2
          go_wp2
          go_roundw
          case rel => exact ⟨k + 1, o2, by have := h.out; omega, by go_num, hown2.out, hg2.out, hsz2, by rw [ho2.out, hsn.out, ho.out, List.append_assoc]; exact Lib.hid rfl⟩
          case measure => have := h.out; simp [intOf]; omega
    · obtain rfl : k = 2 := by omega
      have hof : Hid (o = l ++ sum x y) := by rw [hfin.out]; exact ho
      clear ho hidx
      go_wp2
      go_ret
      rw [← hof.out]
      exact ⟨A0, c0, rfl, hown.out.base_le (Nat.le_succ _), hg.out⟩
end Vint
end Go.Proofs.Yteadcblmomngpaa
namespace Go.Proofs.Yteadcblmomngpaa
open Go Go.RowKit Go.Shelf W
theorem gr_grown {w w' : World} (h : Gr w w') : w.grownBy w' none := ⟨h.os, h.tape, h.output, h.size, fun k hk _ => h.block k hk⟩
theorem gr_from {w w' : World} (h : Gr w w') (B : Nat) : KeepsFrom B w w' := KeepsFrom.of_grownBy (gr_grown h) (fun j e => by cases e)
theorem blk_more {w w' : World} {g : Nat} {t : TypeId} {cs : Array Value} (h : Blk w g t cs) (hg : Gr w w') : Blk w' g t cs := h.below hg h.lt
/-- All below n₀ but block g lies as it lay. -/
structure Ke (g n₀ : Nat) (A B : World) : Prop where
  os : B.os = A.os
  tape : B.tape = A.tape
  output : B.output = A.output
  size : A.heap.size ≤ B.heap.size
  block : ∀ i, i < n₀ → i ≠ g → B.heap[i]? = A.heap[i]?
theorem Ke.refl (g n₀ : Nat) (A : World) : Ke g n₀ A A := ⟨rfl, rfl, rfl, Nat.le_refl _, fun _ _ _ => rfl⟩
theorem Ke.trans {g n₀ : Nat} {A B C : World} (h : Ke g n₀ A B) (k : Ke g n₀ B C) : Ke g n₀ A C :=
  ⟨k.os.trans h.os, k.tape.trans h.tape, k.output.trans h.output, Nat.le_trans h.size k.size, fun i hi hg => (k.block i hi hg).trans (h.block i hi hg)⟩
theorem Ke.cell {g n₀ : Nat} {A B : World} (h : Ke g n₀ A B) {p : Addr} (hp : p.block < n₀) (hg : p.block ≠ g) : B.cell? p = A.cell? p := by
  unfold World.cell?
  rw [h.block p.block hp hg]
theorem Ke.below {g n₀ n : Nat} {A B : World} (h : Ke g n₀ A B) (hn : n ≤ n₀) (hg : n ≤ g) : Below n A B := ⟨h.os, h.tape, h.output, h.size, fun i hi => h.block i (by omega) (by omega)⟩
theorem Ke.of_gr {g n₀ : Nat} {A B : World} (h : Gr A B) (hn : n₀ ≤ A.heap.size) : Ke g n₀ A B := ⟨Below.os h, Below.tape h, Below.output h, Below.size h, fun i hi _ => Below.block h i (by omega)⟩
theorem Ke.putObj {g n₀ : Nat} (W : World) (l : Nat) (o' : Obj) (hl : n₀ ≤ l) : Ke g n₀ W (W.putObj l o') :=
  ⟨rfl, rfl, rfl, by simp, fun i hi _ => World.putObj_heap_other (by omega)⟩
theorem Ke.setCell {g n₀ : Nat} (W : World) (i : Nat) (u : Value) : Ke g n₀ W (W.setCell ⟨g, i, none⟩ u) :=
  ⟨rfl, rfl, rfl, by simp, fun j _ hj => Below.heap_setCell W ⟨g, i, none⟩ u j hj⟩
theorem Ke.grown {g n₀ : Nat} {A B : World} {row : Option Nat} (h : A.grownBy B row) (hn : n₀ ≤ A.heap.size) (hr : ∀ r, row = some r → r = g ∨ n₀ ≤ r) : Ke g n₀ A B :=
  ⟨World.grownBy.os h, World.grownBy.tape h, World.grownBy.output h, World.grownBy.size h, fun i hi hg => World.grownBy.block h i (by omega) (fun e => by
    cases row with
    | none => cases e
    | some r => cases e; rcases hr i rfl with h | h <;> omega)⟩
theorem blk_own {β : Type} {g : Nat} {t : TypeId} (f : β → Array Value) (B : Nat) : OwnFrom B (fun s W => Blk W g t (f s)) := fun s X Y row hs hg hrow =>
  hs.grown hg (fun e => by
    obtain ⟨_, o, ho, hc⟩ := hrow g e.symm
    have hs' : X.heap[g]? = some (.cells (f s) t (0, 0)) := hs
    rw [hs'] at ho
    cases ho
    cases hc)
def noDefer (ops : Array Oper) : Bool := ops.all fun o => match o.op with | .defer _ => false | _ => true
theorem noDefer_at {ops : Array Oper} (h : noDefer ops = true) {i : Nat} {o : Oper} (ho : ops[i]? = some o) : ∀ c, o.op ≠ .defer c := by
  intro c hc
  obtain ⟨hi, rfl⟩ := Array.getElem?_eq_some_iff.1 ho
  have := (Array.all_eq_true.1 h) i hi
  rw [hc] at this
  cases this
section
variable {P : Program} {ops : Array Oper} {Q : Exit → Act → World → Prop} {l n : Nat}
theorem upon_round {o : Oper} {a : Act} {K K' : Act → World → Prop} (hK : ∀ a w, K a w → K' a w) {r : Result Next} (h : o.upon P a K Q r) : o.uponIn (Fence.wide.inRound l) n P a K' Q r := by
  cases r with
  | ok v w' =>
    cases v <;> simp only [Oper.upon] at h <;> simp only [Oper.uponIn] <;>
      first
        | exact hK _ _ h
        | exact ⟨fun e => (by cases e), (callsIn_wide.2 (Calls.mono h fun e w'' he => by cases e <;> first | exact hK _ _ he | exact he)).inRound l⟩
        | exact ⟨fun e => (by cases e), fun c cs _ => by
            obtain ⟨v, w', hv, hs⟩ := h c cs
            exact ⟨v, w', hK _ _ hv, stepsIn_wide.2 hs⟩⟩
        | exact h.elim
  | halt x w' => cases x <;> simp only [Oper.upon] at h <;> simp only [Oper.uponIn] <;> first | exact h | exact h.elim
theorem wpOp_round (hd : noDefer ops = true) (hno : ¬ LetsOut Q) {i : Nat} {a : Act} {w : World} {K K' : Act → World → Prop} (hK : ∀ a w, K a w → K' a w) (h : wpOp P ops Q i K a w) : wpOpIn (Fence.wide.inRound l) n P ops Q i K' a w := by
  unfold wpOp at h
  unfold wpOpIn
  cases ho : ops[i]? with
  | none =>
    rw [ho] at h
    exact hK _ _ h
  | some o =>
    rw [ho] at h
    simp only at h ⊢
    split
    · rename_i hw
      rw [if_pos hw] at h
      obtain h | ⟨_, h⟩ := h
      · refine ⟨fun _ _ => trivial, ?_⟩
        rw [Oper.semAt_eq _ _ _ (noDefer_at hd ho)]
        exact upon_round hK h
      · exact absurd h hno
    · rename_i hw
      rw [if_neg hw] at h
      exact ⟨fun _ _ => trivial, hK _ _ h⟩
theorem wpAny_round (hd : noDefer ops = true) (hno : ¬ LetsOut Q) : ∀ (fuel : Nat) (listed : Array Bool) (a : Act) (w : World), wpAny P .any ops Q fuel listed a w → wpAnyIn (Fence.wide.inRound l) n P .any ops Q fuel listed a w := by
  intro fuel
  induction fuel with
  | zero => exact fun _ _ _ h => h
  | succ fuel ih => exact fun listed a w h => ⟨h.1, fun i hi => wpOp_round hd hno (fun a w => ih _ a w) (h.2 i hi)⟩
theorem region_growIn {a₀ : Act} {w₀ : World} {id : Nat} (hm : P.follows .mixedOrders = true) (hk : growOk ops a₀.tmps.size = true) (hd : noDefer ops = true) (hno : ¬ LetsOut Q) (h : GW P ops Q a₀ w₀ noneA 0) :
    (Code.region id ops true).wpIn (Fence.wide.inRound l) n P Q a₀ w₀ :=
  wpIn_region_any hm (wpAny_round hd hno _ _ _ _ (h hk noneA_lasts (fun j o hj => absurd hj (by omega)) ops.size _ a₀ _ (by simp [unlisted]) (fun Ψ _ =>
    ⟨(Gr.refl _).drew, rfl, rfl, fun i o d _ hl => by
        exfalso
        rcases Nat.lt_or_ge i ops.size with h' | h'
        · simp [h'] at hl
        · simp [h'] at hl,
      fun _ _ => rfl, fun i o _ hl => by
        exfalso
        rcases Nat.lt_or_ge i ops.size with h' | h'
        · simp [h'] at hl
        · simp [h'] at hl,
      by simp⟩) (fun i hl => by
        rcases Nat.lt_or_ge i ops.size with h' | h'
        · simp [h'] at hl
        · simp [h'] at hl)))
end
end Go.Proofs.Yteadcblmomngpaa
namespace Go.Proofs.Yteadcblmomngpaa
open Go Go.RowKit Go.Shelf W
variable {F : Fence} {n : Nat} {P : Program}
/-- What is said stays said when only block b is written, and more memory is made. -/
def Bears {α : Type} (b : Nat) (J : List α → World → Prop) : Prop := ∀ s A B, J s A → Kb b A B → J s B
/-- The iterator's contract: it may write block b. -/
def SeqB {α : Type} (F : Fence) (n : Nat) (P : Program) (g : Nat) (lb : Array Value) (encs : α → Array Value) (b : Nat) (Kp : World → World → Prop) (S Sp : List α → Prop) (N : Nat) (W : World) : Prop :=
  ∀ (l : Nat) (J Jx : List α → World → Prop), Bears b J → Bears b Jx →
    (∀ pre x W1, J pre W1 → pre.length < N → YieldAt F (n - 1) P l (encs x) W1 fun e W' =>
      (e = .returned (.bool true) ∧ J (pre ++ [x]) W' ∧ Kp W1 W') ∨ (e = .returned (.bool false) ∧ Jx (pre ++ [x]) W')) →
    J [] W → CallsIn F n P g (#[.func (.yield l) #[] #[]] ++ lb) W fun e W' => (∃ v, e = .returned v) ∧ ((∃ xs, S xs ∧ J xs W') ∨ (∃ pre, Sp pre ∧ Jx pre W'))
/-- The loop's two records, at d and behind it. -/
structure Booked (W : World) (d : Nat) (r : Loop) : Prop where
  hd : W.heap[d]? = some (.deferred (some []))
  hl : W.heap[d + 1]? = some (.loop r)
theorem Booked.bears {A B : World} {d b : Nat} {r : Loop} (h : Booked A d r) (k : Kb b A B) (hb : b < d) : Booked B d r :=
  ⟨(World.grownBy.block k d (Array.getElem?_eq_some_iff.1 h.hd).1 (by simp; omega)).trans h.hd,
   (World.grownBy.block k (d + 1) (Array.getElem?_eq_some_iff.1 h.hl).1 (by simp; omega)).trans h.hl⟩
theorem Booked.put {W : World} {d : Nat} {r : Loop} (h : Booked W d r) (r' : Loop) : Booked (W.putObj (d + 1) (.loop r')) d r' :=
  ⟨(World.putObj_heap_other (by omega)).trans h.hd, World.putObj_heap_same (Array.getElem?_eq_some_iff.1 h.hl).1⟩
theorem Booked.keeps {A B : World} {d : Nat} {r : Loop} (h : Booked A d r) (k : KeepsFrom d A B) : Booked B d r :=
  ⟨k.same _ _ (Nat.le_refl _) h.hd rfl, k.same _ _ (by omega) h.hl rfl⟩
theorem wpIn_rangeBox {α : Type} {g : Operand} {ps : Array Tmp} {assign body : Code} {Q : Exit → Act → World → Prop} {a : Act} {w : World} {b : Nat} (hbw : b < w.heap.size)
    (hro : F.round = none) (h1 : 1 ≤ n) {gf : Nat} {lb : Array Value} (hg : a.eval g = .func (.func gf) #[] lb) (hFg : F.fn gf) (eg : ∀ args w, (callFunc gf args).run P w = .ok (.enter gf args) w)
    {encs : α → Array Value} {Kp : World → World → Prop} {S Sp : List α → Prop} {N : Nat} (hseq : ∀ W, Below w.heap.size w W → SeqB F (n - 1) P gf lb encs b Kp S Sp N W)
    (hKt : ∀ {A B C : World}, Kp A B → Kp B C → Kp A C) (hKb : ∀ (W : World) (l : Nat) (o : Obj), w.heap.size ≤ l → Kp W (W.putObj l o)) (hps : ∀ x, (encs x).size = ps.size)
    (I : List α → World → Prop) (Ix : Code → List α → World → Prop) (hI : OwnFrom w.heap.size I) (hIx : ∀ c, OwnFrom w.heap.size (Ix c)) (hB : Bears b I) (hBx : ∀ c, Bears b (Ix c)) (h0 : I [] w) (a₁ : α → Act)
    (hassign : ∀ (l : Nat) (x : α) (W : World) (K : Act → World → Prop), K (a₁ x) W →
      assign.wpIn (F.inRound l) (n - 1 - 1) P (Exit.then K (fun _ _ _ => False)) { tmps := (ps.zip (encs x)).foldl (fun t (p, v) => t.setIfInBounds p v) a.tmps, defers := [] } W)
    (hbody : ∀ (l : Nat) (pre : List α) (x : α) (W : World), I pre W → pre.length < N → body.wpIn (F.inRound l) (n - 1 - 1) P (ownPostG w.heap.size Kp I Ix (pre ++ [x]) W) (a₁ x) W)
    (hdone : ∀ (D : Nat) (xs : List α) (W : World), w.heap.size ≤ D → S xs → I xs W → W.heap[D]? = some (.deferred (some [])) → Q .normal { a with defers := { target := .collected D, args := #[] } :: a.defers } W)
    (hstop : ∀ (D : Nat) (c : Code) (pre : List α) (W : World), w.heap.size ≤ D → Sp pre → Ix c pre W → W.heap[D]? = some (.deferred (some [])) → c.wpIn F n P Q { a with defers := { target := .collected D, args := #[] } :: a.defers } W) :
    (Code.rangeFunc g ps assign body).wpIn F n P Q a w := by
  refine wpIn_rangeFunc fun fn hfn => ?_
  rw [hro]
  obtain ⟨d, hd⟩ : ∃ d, w.heap.size = d := ⟨_, rfl⟩
  obtain ⟨R, hR⟩ : ∃ R : LoopState → Option Code → Loop, R = fun st pe => { state := st, pending := pe, fn, tmps := a.tmps, params := ps, assign, body, defers := d } := ⟨_, rfl⟩
  have grow : Below w.heap.size w ((w.alloc (.deferred (some []))).alloc (.loop (R .ready none))) := ((Below.refl _ w).alloc (Nat.le_refl _) _).alloc (by simp) _
  have book : Booked ((w.alloc (.deferred (some []))).alloc (.loop (R .ready none))) d (R .ready none) := by
    refine ⟨?_, ?_⟩
    · rw [← hd]
      exact (Below.heap_alloc _ _ _ (by simp)).trans (World.alloc_heap_new w _)
    · have h := World.alloc_heap_new (w.alloc (.deferred (some []))) (.loop (R .ready none))
      rw [World.size_alloc, hd] at h
      exact h
  have start : I [] ((w.alloc (.deferred (some []))).alloc (.loop (R .ready none))) := hI.alloc _ (hI.alloc _ h0)
  have enter : (Instr.enterLoop fn a.tmps ps assign body none).run P w = .ok (w.heap.size + 1, [{ target := .collected w.heap.size, args := #[] }]) ((w.alloc (.deferred (some []))).alloc (.loop (R .ready none))) := by
    rw [hR, ← hd]
    exact run_enterLoop_outer _ _ _ _ _
  generalize (w.alloc (.deferred (some []))).alloc (.loop (R .ready none)) = V at grow book start enter
  have turnI : ∀ {s : List α} {W : World} {r : Loop} (r' : Loop), I s W → Booked W d r → I s (W.putObj (d + 1) (.loop r')) := fun r' hi hk => hI.putObj _ hi (by omega) hk.hl rfl
  have turnX : ∀ {c : Code} {s : List α} {W : World} {r : Loop} (r' : Loop), Ix c s W → Booked W d r → Ix c s (W.putObj (d + 1) (.loop r')) := fun r' hi hk => (hIx _).putObj _ hi (by omega) hk.hl rfl
  rw [hd] at enter
  refine ⟨d + 1, [{ target := .collected d, args := #[] }], V, { target := .fn (.func gf) lb, args := #[.func (.yield (d + 1)) #[] #[]] }, V, gf, #[.func (.yield (d + 1)) #[] #[]] ++ lb, V, enter,
    by simp only [resolve, hg]; simp [go_sem], fun f' hf' => by simp [Target.leads] at hf'; subst hf'; exact hFg, by simp [invoke, go_sem, eg], fun _ => h1, ?_⟩
  refine (hseq V grow (d + 1) (fun s W => I s W ∧ Booked W d (R .ready none)) (fun s W => ∃ c, Ix c s W ∧ Booked W d (R .done (some c)))
    (fun s A B h k => ⟨hB s A B h.1 k, h.2.bears k (by omega)⟩)
    (fun s A B ⟨c, hc, hk⟩ k => ⟨c, hBx c s A B hc k, hk.bears k (by omega)⟩) ?_ ⟨start, book⟩).mono ?_
  · rintro pre x W ⟨hi, hk⟩ hN
    have yields := run_yield (P := P) (args := encs x) hk.hl (by rw [hR]; exact hps x)
    rw [hR] at yields
    have begins := run_beginRound (P := P) hk.hl (by rw [hR])
    refine ⟨fn, _, assign, body, yields, roundIn_of_wpIn hfn (hassign _ x W _ ⟨_, begins, ?_⟩)⟩
    have busy := hk.put { R .ready none with state := .busy }
    have close : ∀ (j : Option Code) (Y : World), Booked Y d { R .ready none with state := .busy } →
        (Instr.endRound (d + 1) j).run P Y = .ok (.bool j.isNone) (Y.putObj (d + 1) (.loop (R (if j.isNone then .ready else .done) j))) := fun j Y hy => by
      have h := run_endRound (P := P) j hy.hl
      rw [hR] at h ⊢
      exact h
    have leave : ∀ (c : Code) (Y : World), KeepsFrom w.heap.size (W.putObj (d + 1) (.loop { R .ready none with state := .busy })) Y → Ix c (pre ++ [x]) Y →
        ∃ v W', (Instr.endRound (d + 1) (some c)).run P Y = .ok v W' ∧ ((Ending.returned v = .returned (.bool true) ∧ (I (pre ++ [x]) W' ∧ Booked W' d (R .ready none)) ∧ Kp W W') ∨ (Ending.returned v = .returned (.bool false) ∧ ∃ c, Ix c (pre ++ [x]) W' ∧ Booked W' d (R .done (some c)))) := fun c Y k3 hx => by
      have hy := busy.keeps (hd ▸ k3)
      exact ⟨_, _, close (some c) Y hy, .inr ⟨rfl, c, turnX _ hx hy, hy.put _⟩⟩
    refine wpIn_mono (hbody _ pre x _ (turnI _ hi hk) hN) fun e a3 Y hp => ?_
    cases e with
    | normal =>
      obtain ⟨k3, kp3, hi3⟩ := hp
      have hy := busy.keeps (hd ▸ k3)
      exact ⟨_, _, close none Y hy, .inl ⟨rfl, ⟨turnI _ hi3 hy, hy.put _⟩, hKt (hKt (hKb _ _ _ (by omega)) kp3) (hKb _ _ _ (by omega))⟩⟩
    | ret => exact leave .ret Y hp.1 hp.2
    | exit id => exact leave (.exit id) Y hp.1 hp.2
    | goto t => exact leave (.goto t) Y hp.1 hp.2
    | panic ch => exact hp.elim
    | outgrown => exact hp.elim
  · rintro e Y ⟨⟨v, rfl⟩, (⟨xs, hS, hi, hk⟩ | ⟨pre, hSp, c, hi, hk⟩)⟩
    · have ends := run_endLoop (P := P) hk.hl (by rw [hR]; simp)
      rw [hR] at ends
      exact ⟨none, _, ends, hdone d xs _ (by omega) hS (turnI _ hi hk) ((World.putObj_heap_other (by omega)).trans hk.hd)⟩
    · have ends := run_endLoop (P := P) hk.hl (by rw [hR]; simp)
      rw [hR] at ends
      exact ⟨some c, _, ends, hstop d c pre _ (by omega) hSp (turnX _ hi hk) ((World.putObj_heap_other (by omega)).trans hk.hd)⟩
end Go.Proofs.Yteadcblmomngpaa
namespace Go.Proofs.Yteadcblmomngpaa
open Go Go.RowKit W
theorem run_str2 {P : Program} {w : World} {T : TypeId} (hT : P.underlying T = some .string) (b : List UInt8) (k k' : IntKind) (f t : Nat) (hft : f ≤ t) (htl : t ≤ b.length) :
    (Instr.sliceAt T (str b) (some (.int k (f : Int))) (some (.int k' (t : Int))) none).run P w = .ok (str ((b.drop f).take (t - f))) w := by
  have h1 : (f : Int) ≤ (t : Int) := by omega
  have h2 : (t : Int) ≤ (b.length : Int) := by omega
  have hs : (⟨b.toArray⟩ : ByteArray).size = b.length := by simp [ByteArray.size]
  simp [Instr.sliceAt, Instr.slice, Instr.sliceBounds, Instr.sliceBound, run_underlying hT, asIntOf, hs, hft, htl, ByteArray.extract_mk]
theorem run_str1 {P : Program} {w : World} {T : TypeId} (hT : P.underlying T = some .string) (b : List UInt8) (k : IntKind) (f : Nat) (hft : f ≤ b.length) :
    (Instr.sliceAt T (str b) (some (.int k (f : Int))) none none).run P w = .ok (str (b.drop f)) w := by
  have h1 : (f : Int) ≤ (b.length : Int) := by omega
  have hs : (⟨b.toArray⟩ : ByteArray).size = b.length := by simp [ByteArray.size]
  simp [Instr.sliceAt, Instr.slice, Instr.sliceBounds, Instr.sliceBound, run_underlying hT, asIntOf, hs, hft, ByteArray.extract_mk]
  exact List.take_of_length_le (by rw [List.length_drop]; omega)
theorem res_str2 {P : Program} {w : World} {T : TypeId} {o : Oper} {a : Act} {b : List UInt8} {k k' : IntKind} {f n : Nat} (x y z : Operand) (hT : P.underlying T = some .string) (ho : o.op = .slice T x (some y) (some z) none)
    (h1 : a.eval x = str b) (h2 : a.eval y = .int k (f : Int)) (h3 : a.eval z = .int k' ((f + n : Nat) : Int)) (htl : f + n ≤ b.length) : Res P (execOp a.eval o) (eqv (str ((b.drop f).take n))) w := by
  refine .here (v := str ((b.drop f).take n)) ?_ rfl
  have := run_str2 (P := P) (w := w) hT b k k' f (f + n) (by omega) htl
  rw [Nat.add_sub_cancel_left] at this
  simp only [execOp, ho, h1, Option.map_some, Option.map_none, h2, h3]
  rw [Sem.run_bind, this]
  rfl
theorem res_str2e {P : Program} {w : World} {T : TypeId} {o : Oper} {a : Act} {b d : List UInt8} {k k' : IntKind} {f n : Nat} (x y z : Operand) (hT : P.underlying T = some .string) (ho : o.op = .slice T x (some y) (some z) none)
    (h1 : a.eval x = str b) (h2 : a.eval y = .int k (f : Int)) (h3 : a.eval z = .int k' ((f + n : Nat) : Int)) (htl : f + n ≤ b.length) (hd : (b.drop f).take n = d) : Res P (execOp a.eval o) (eqv (str d)) w := by
  subst hd
  exact res_str2 x y z hT ho h1 h2 h3 htl
theorem res_str1 {P : Program} {w : World} {T : TypeId} {o : Oper} {a : Act} {b : List UInt8} {k : IntKind} {f : Nat} (x y : Operand) (hT : P.underlying T = some .string) (ho : o.op = .slice T x (some y) none none)
    (h1 : a.eval x = str b) (h2 : a.eval y = .int k (f : Int)) (hft : f ≤ b.length) : Res P (execOp a.eval o) (eqv (str (b.drop f))) w := by
  refine .here (v := str (b.drop f)) ?_ rfl
  simp only [execOp, ho, h1, Option.map_some, Option.map_none, h2]
  rw [Sem.run_bind, run_str1 hT b k f hft]
  rfl
theorem own_add (g n : Nat) : (⟨g, 0, none⟩ : Addr).add n = ⟨g, n, none⟩ := by unfold Addr.add; split <;> simp_all
/-- The last cell of an own slice of one-cell elements. -/
theorem or_last {E : TypeId} {w : World} {base n c : Nat} {A : Option Addr} {xs : List Value} {a : Value} (h : OR E 1 w base (.slice A (n + 1) c) (n + 1) (xs ++ [a])) (hn : xs.length = n) :
    ∃ g, A = some ⟨g, 0, none⟩ ∧ base ≤ g ∧ g < w.heap.size ∧ w.cell? ⟨g, n, none⟩ = some a ∧ (∀ j, w.frozen? ⟨g, j, none⟩ = false) ∧
      ∀ b, OR E 1 (w.setCell ⟨g, n, none⟩ b) base (.slice A (n + 1) c) (n + 1) (xs ++ [b]) := by
  rcases h.2 with ⟨hv, h0⟩ | ⟨g, cap, cur, hv, hg, hh, r⟩
  · injection hv with h1 h2 h3
    omega
  · injection hv with h1 h2 h3
    subst h1
    have hc := World.ownsRow.cells h (g := g) rfl
    have hlt := World.ownsRow.lt h g rfl
    refine ⟨g, rfl, hlt.1, hlt.2, ?_, fun j => World.ownsRow.frozenAt h j, fun b => ?_⟩
    · have := hc n a (by rw [List.getElem?_append_right (by omega), hn, Nat.sub_self]; rfl)
      rwa [own_add] at this
    · have h3 := (World.ownsRow.stored h n b).1
      have e : (xs ++ [a]).set n b = xs ++ [b] := by rw [List.set_append_right _ _ (by omega), hn, Nat.sub_self]; rfl
      rw [e] at h3
      exact h3
end Go.Proofs.Yteadcblmomngpaa
namespace Go.Proofs.Yteadcblmomngpaa
open Go Go.RowKit Go.Shelf W
namespace Pth
abbrev strs (l : List (List UInt8)) : List Value := l.map str
theorem strRow : RowType Try.prog 9 1 16 := by
  obtain ⟨i, h1, h2, h3, h4⟩ := info_parts (show (Try.prog.info? 9).map (fun i => (i.zero, i.size, i.bytes)) = some (some (.string ⟨#[]⟩), 1, 16) by kernel_rfl)
  exact ⟨i, _, h1, h2, h3, h4, rfl, by omega⟩
theorem all_take {l : List UInt8} {f : UInt8 → Bool} {k : Nat} (h : k < l.length) : ((l.take (k + 1)).all f) = ((l.take k).all f && f l[k]) := by
  rw [List.take_succ_eq_append_getElem h, List.all_append]; simp
theorem all_bad {l : List UInt8} {f : UInt8 → Bool} {k : Nat} (h : k < l.length) (hf : f l[k] = false) : l.all f = false := by
  rw [← List.take_append_drop (k + 1) l, List.all_append, all_take h, hf]; simp
theorem letter_iff (c : UInt8) : letter c = true ↔ ((97 ≤ n8 c ∧ n8 c ≤ 122) ∨ (65 ≤ n8 c ∧ n8 c ≤ 90) ∨ (48 ≤ n8 c ∧ n8 c ≤ 57) ∨ n8 c = 46 ∨ n8 c = 95 ∨ n8 c = 45) := by
  have e : ∀ k : UInt8, (c == k) = decide (c.toNat = k.toNat) := fun k => by
    rw [Bool.eq_iff_iff, beq_iff_eq, decide_eq_true_eq]
    exact ⟨fun h => by rw [h], fun h => UInt8.toNat_inj.1 h⟩
  have hn : n8 c = ((c.toNat : Nat) : Int) := rfl
  unfold letter
  rw [e, e, e, hn]
  simp only [Bool.or_eq_true, decide_eq_true_eq]
  have e1 : (46 : UInt8).toNat = 46 := rfl
  have e2 : (95 : UInt8).toNat = 95 := rfl
  have e3 : (45 : UInt8).toNat = 45 := rfl
  rw [e1, e2, e3]
  omega
theorem letter_no {c : UInt8} (h : ¬ ((97 ≤ n8 c ∧ n8 c ≤ 122) ∨ (65 ≤ n8 c ∧ n8 c ≤ 90) ∨ (48 ≤ n8 c ∧ n8 c ≤ 57) ∨ n8 c = 46 ∨ n8 c = 95 ∨ n8 c = 45)) : letter c = false := by
  cases e : letter c with
  | false => rfl
  | true => exact absurd ((letter_iff c).1 e) h
theorem name_bad {l : List UInt8} (h : l.all letter = false) : name l = false := by unfold name; rw [h, Bool.and_false]
theorem name_eq {l : List UInt8} (h : l.all letter = true) : name l = (decide (1 ≤ l.length ∧ l.length ≤ 12) && !(l == [46]) && !(l == [46, 46])) := by unfold name; rw [h, Bool.and_true]
set_option maxRecDepth 100000 in
set_option maxHeartbeats 2000000 in
theorem refName_any (l : List UInt8) (w : World) (hl : l.length ≤ 1000000) : Calls Try.prog 53 #[str l] w fun e w' => e = .returned (.bool (name l)) ∧ w = w' := by
  obtain ⟨r, hr⟩ : ∃ r, name l = r := ⟨_, rfl⟩
  rw [hr]
  replace hr := Lib.hid hr
  go_enter Try.func53, Try.ntmps53
  go_wp2
  go_loop [3] (fun i => ∃ k : Nat, k ≤ l.length ∧ i = .int .i64 (k : Int) ∧ Hid ((l.take k).all letter = true)) (fun i => l.length - (intOf i).toNat)
  case atStart => exact ⟨0, by omega, rfl, Lib.hid rfl⟩
  case round =>
    obtain ⟨k, hk, rfl, hq⟩ := hrel
    by_cases hkl : k < l.length
    · have ij : (k : Int) < (l.length : Int) := by omega
      have kw : IntKind.i64.wrap ((k : Int) + 1) = (k : Int) + 1 := IntWalk.i64_in _ (by omega)
      have hsz : k < (⟨l.toArray⟩ : ByteArray).size := by simpa [ByteArray.size] using hkl
      obtain ⟨c, hc⟩ : ∃ c, (⟨l.toArray⟩ : ByteArray)[k]'hsz = c := ⟨_, rfl⟩
      have hcl : l[k] = c := hc
      have hnx : letter c = true → Hid ((l.take (k + 1)).all letter = true) := fun h => Lib.hid (by rw [all_take hkl, hq.out, hcl, h]; rfl)
      have hbd : letter c = false → name l = false := fun h => name_bad (all_bad hkl (by rw [hcl]; exact h))
      replace hnx := Lib.hid hnx
      replace hbd := Lib.hid hbd
      clear hcl
      go_wp2
      all_goals first
        | exact ⟨⟨k + 1, by omega, by go_num, hnx.out ((letter_iff c).2 (by first | omega | (simp at *; omega)))⟩, by simp [intOf]; omega⟩
        | (have hrf : r = false := (by rw [← hr.out, hbd.out (letter_no (by first | omega | (simp at *; omega)))]); subst hrf; go_ret; exact ⟨rfl, rfl⟩)
    · obtain rfl : k = l.length := by omega
      rw [List.take_length] at hq
      have hr2 := hr.out
      rw [name_eq hq.out] at hr2
      clear hq hr
      by_cases c1 : 1 ≤ l.length
      · have i1 : (1 : Int) ≤ (l.length : Int) := by omega
        by_cases c2 : l.length ≤ 12
        · have i2 : (l.length : Int) ≤ 12 := by omega
          rw [decide_eq_true (show 1 ≤ l.length ∧ l.length ≤ 12 from ⟨c1, c2⟩), Bool.true_and] at hr2
          by_cases c3 : l = [46]
          · obtain rfl : r = false := by rw [← hr2, c3]; rfl
            clear hr2
            go_wp2
            go_ret
            exact ⟨rfl, rfl⟩
          · have d3 : (l == [46]) = false := by simpa using c3
            by_cases c4 : l = [46, 46]
            · obtain rfl : r = false := by rw [← hr2, c4]; rfl
              clear hr2
              go_wp2
              go_ret
              exact ⟨rfl, rfl⟩
            · have d4 : (l == [46, 46]) = false := by simpa using c4
              obtain rfl : r = true := by rw [← hr2, d3, d4]; rfl
              clear hr2
              go_wp2
              go_ret
              exact ⟨rfl, rfl⟩
        · have i2 : ¬ (l.length : Int) ≤ 12 := by omega
          obtain rfl : r = false := by rw [← hr2, decide_eq_false (fun h => c2 h.2)]; rfl
          clear hr2
          go_wp2
          go_ret
          exact ⟨rfl, rfl⟩
      · have i1 : ¬ (1 : Int) ≤ (l.length : Int) := by omega
        obtain rfl : r = false := by rw [← hr2, decide_eq_false (fun h => c1 h.1)]; rfl
        clear hr2
        go_wp2
        go_ret
        exact ⟨rfl, rfl⟩
/-- An own slice of texts. -/
def OutS (w : World) (ls : List (List UInt8)) : Ending → World → Prop := fun e w' => ∃ A c, e = .returned (.slice A ls.length c) ∧ OR 9 1 w' w.heap.size (.slice A ls.length c) ls.length (strs ls) ∧ Gr w w'
theorem strs_app (a b : List (List UInt8)) : strs (a ++ b) = strs a ++ strs b := List.map_append
theorem new_str (w : World) (s : List UInt8) : Reads (w.alloc (.cells #[str s] 9)) (w.heap.size + 1) 1 (some ⟨w.heap.size, 0, none⟩) 1 [str s] := by
  refine ⟨rfl, fun _ => ⟨_, rfl, Nat.lt_succ_self _, fun j u hu => ?_⟩⟩
  rw [own_add, (Blk.new w _ _).cell]
  cases j with
  | zero => simpa using hu
  | succ j => simp at hu
theorem new_own (w : World) (s : List UInt8) (base : Nat) (hb : base ≤ w.heap.size) : OR 9 1 (w.alloc (.cells #[str s] 9)) base (.slice (some ⟨w.heap.size, 0, none⟩) 1 1) 1 [str s] :=
  ⟨rfl, .inr ⟨w.heap.size, 1, #[str s], rfl, hb, Blk.new w _ _, Nat.le_refl _, by unfold maxLen; omega, by simp, by simp⟩⟩
theorem split_last (l : List UInt8) : ∃ o a, splitC l = o ++ [a] := by
  obtain ⟨a, t, e⟩ := splitC_pos l
  exact ⟨(splitC l).dropLast, (splitC l).getLast (by rw [e]; simp), (List.dropLast_concat_getLast _).symm⟩
set_option maxRecDepth 100000 in
set_option maxHeartbeats 4000000 in
theorem refCut_any (l : List UInt8) (w : World) (hl : l.length ≤ 1000000) : Calls Try.prog 52 #[str l] w (OutS w (cut l)) := by
  by_cases h0 : l = []
  · subst h0
    go_enter Try.func52, Try.ntmps52
    go_wp2
    go_ret
    exact ⟨none, 0, rfl, World.ownsRow_nil _ _ _ _, Gr.refl _⟩
  · have hne : (l == []) = false := by simpa using h0
    obtain ⟨r, hr⟩ : ∃ r, cut l = r := ⟨_, rfl⟩
    rw [hr]
    unfold cut at hr
    rw [if_neg h0] at hr
    replace hr := Lib.hid hr
    have o1 := Lib.hid (new_own w [] w.heap.size (Nat.le_refl _))
    have g1 := Lib.hid ((Gr.refl w).alloc (.cells #[str []] 9))
    go_enter Try.func52, Try.ntmps52
    go_wp2
    go_loopw [3, 4] (fun v3 v4 wr => ∃ (k n : Nat) (o : List (List UInt8)) (A0 : Option Addr) (c0 : Nat), k ≤ l.length ∧ n ≤ k + 1 ∧ v3 = .slice A0 n c0 ∧ v4 = .int .i64 (k : Int) ∧ Hid (splitC (l.take k) = o ∧ o.length = n ∧ OR 9 1 wr w.heap.size (.slice A0 n c0) n (strs o) ∧ Gr w wr)) (fun _ v4 _ => l.length - (intOf v4).toNat)
    case atStart => exact ⟨0, 1, [[]], _, _, by omega, by omega, rfl, rfl, Lib.hid ⟨rfl, rfl, o1.out, g1.out⟩⟩
    case round =>
      clear o1 g1
      obtain ⟨k, n, o, A0, c0, hk, hn, rfl, rfl, hst⟩ := hrel
      obtain ⟨ho, hon, hor, hgr⟩ := hst.out
      clear hst
      have hws := Below.size hgr
      by_cases hkl : k < l.length
      · have ij : (k : Int) < (l.length : Int) := by omega
        have kw : IntKind.i64.wrap ((k : Int) + 1) = (k : Int) + 1 := IntWalk.i64_in _ (by omega)
        have hsz : k < (⟨l.toArray⟩ : ByteArray).size := by simpa [ByteArray.size] using hkl
        obtain ⟨c, hc⟩ : ∃ c, (⟨l.toArray⟩ : ByteArray)[k]'hsz = c := ⟨_, rfl⟩
        have hcl : l[k] = c := hc
        have htk : l.take (k + 1) = l.take k ++ [c] := by rw [← hcl]; exact List.take_succ_eq_append_getElem hkl
        by_cases h47 : c = 47
        · have e47 : (n8 c == 47) = true := by rw [h47]; rfl
          have hsp : splitC (l.take (k + 1)) = o ++ [[]] := by rw [htk, h47, splitC_slash, ho]
          have hst := Lib.hid (strs_app o [[]])
          have hor' := Lib.hid (World.ownsRow.alloc hor (.cells #[str []] 9))
          have nw := Lib.hid (new_str wr [])
          have gA := (Gr.refl wr).alloc (.cells #[str []] 9)
          have hg9 := Lib.hid (fun (w9 : World) (b : Below w.heap.size (wr.alloc (.cells #[str []] 9)) w9) => (show Gr w w9 from Below.trans (Below.trans hgr (Below.mono gA hws)) b))
          replace hsp := Lib.hid hsp
          replace hon := Lib.hid hon
          clear hcl htk h47 ho hor hgr gA
          go_wp2_with (first
            | ((with_reducible refine wpList_isApp (.tmp 18) (.tmp 19) 50 rfl ?_); refine wpList_append_rowsN (base := w.heap.size) (v := .slice A0 n c0) rfl (.tmp 18) (.tmp 19) 50 rfl Try.underlying50 strRow rfl (by exact hor'.out) (wr.heap.size + 1) (some ⟨wr.heap.size, 0, none⟩) 1 1 [str []] rfl (by exact nw.out) (by simp [Value.oneCell']) (by unfold maxLen; omega) (by omega) (by rw [World.size_alloc]; omega) (strs (o ++ [[]])) hst.out (n + 1) rfl ?_; intro A9 c9 w9 o9 b9; replace o9 := Lib.hid o9; have g9 := Lib.hid (hg9.out w9 b9); clear hor' nw b9 hg9))
          exact ⟨⟨k + 1, n + 1, o ++ [[]], A9, c9, by omega, by omega, rfl, by go_num, Lib.hid ⟨hsp.out, by rw [List.length_append, hon.out]; rfl, o9.out, g9.out⟩⟩, by simp [intOf]; omega⟩
        · have e47 : (n8 c == 47) = false := by
            have : ¬ n8 c = 47 := fun h => h47 (UInt8.toNat_inj.1 (by have h' : ((c.toNat : Nat) : Int) = 47 := h; show c.toNat = 47; omega))
            simpa using this
          obtain ⟨o', a, hoa⟩ := split_last (l.take k)
          rw [ho] at hoa
          have hsp : splitC (l.take (k + 1)) = o' ++ [a ++ [c]] := by rw [htk]; exact splitC_char _ c h47 o' a (by rw [ho, hoa])
          have hal : a.length ≤ 1000000 := by
            have := splitC_each (l.take k) a (by rw [ho, hoa]; simp)
            rw [List.length_take] at this
            omega
          subst hoa
          obtain ⟨m, rfl⟩ : ∃ m, n = m + 1 := ⟨o'.length, by rw [← hon, List.length_append]; rfl⟩
          have hom : o'.length = m := by rw [List.length_append] at hon; simpa using hon
          rw [strs_app] at hor
          obtain ⟨g, rfl, hgb, hgl, hcell, hfz, hset⟩ := or_last hor (by rw [List.length_map]; exact hom)
          have hc1 : (l.drop k).take 1 = [c] := by rw [List.drop_eq_getElem_cons hkl, ← hcl]; rfl
          have hor2 := Lib.hid hor
          replace hset := Lib.hid hset
          replace hsp := Lib.hid hsp
          replace hgr := Lib.hid hgr
          replace hc1 := Lib.hid hc1
          obtain ⟨ad, had⟩ : ∃ ad : Addr, ad = ⟨g, 0, none⟩ := ⟨_, rfl⟩
          have hadm : ad.add m = ⟨g, m, none⟩ := by rw [had]; exact own_add g m
          have hcell2 : wr.cell? (ad.add m) = some (str a) := by rw [hadm]; exact hcell
          have hbl : (ad.add m).block < wr.heap.size := by rw [hadm]; exact hgl
          have hmm : m < m + 1 := Nat.lt_succ_self m
          rw [← had]
          replace had := Lib.hid had
          clear hcl htk h47 ho hon hor hcell
          go_wp2
          refine region_grow rfl (by kernel_rfl) ?_
          refine GW.mv rfl trivial (.inl rfl) (kn0 (t := 3) (c := .slice (some ad) (m + 1) c0) (by kernel_rfl) rfl) (eqv_lasts _) ?_
          refine GW.mv rfl trivial (.inl rfl) (kn0 (t := 3) (c := .slice (some ad) (m + 1) c0) (by kernel_rfl) rfl) (eqv_lasts _) ?_
          refine GW.lenV rfl trivial rfl Try.underlying50 (kn (t := 22) (j := 1) (by kernel_rfl)) ?_
          refine GW.bin (.int .i64 (m : Int)) rfl trivial rfl (kn (t := 23) (j := 2) (by kernel_rfl)) knc (fun w' => by simp [go_sem, IntKind.wrap_i64]; omega) ?_
          refine GW.mv rfl trivial (.inl rfl) (kn0 (t := 3) (c := .slice (some ad) (m + 1) c0) (by kernel_rfl) rfl) (eqv_lasts _) ?_
          refine GW.mv rfl trivial (.inl rfl) (kn0 (t := 3) (c := .slice (some ad) (m + 1) c0) (by kernel_rfl) rfl) (eqv_lasts _) ?_
          refine GW.lenV rfl trivial rfl Try.underlying50 (kn (t := 26) (j := 5) (by kernel_rfl)) ?_
          refine GW.bin (.int .i64 (m : Int)) rfl trivial rfl (kn (t := 27) (j := 6) (by kernel_rfl)) knc (fun w' => by simp [go_sem, IntKind.wrap_i64]; omega) ?_
          refine GW.p2 (.pointer (some (ad.add m))) rfl trivial (kn (t := 25) (j := 4) (by kernel_rfl)) (kn (t := 28) (j := 7) (by kernel_rfl)) (fun ρ w' h1 h2 hg => by show ((Instr.indexAt 50 (ρ (.tmp 25)) (ρ (.tmp 28)) >>= fun v => pure (Next.value v)) : Sem Next).run Try.prog w' = _; rw [h1, h2, Sem.run_bind, run_idxR w' Try.underlying50 (size := 1) (by kernel_rfl) ad _ _ m hmm]; simp) ?_
          refine GW.p1 (str a) rfl trivial (kn (t := 29) (j := 8) (by kernel_rfl)) (fun ρ w' hρ hg => by simp [execOp, hρ, go_sem, (hg.cell (p := (ad.add m)) hbl).trans hcell2]) ?_
          refine GW.mv rfl trivial (.inl rfl) (kn0 (t := 0) (c := str l) (by kernel_rfl) rfl) (eqv_lasts _) ?_
          refine GW.mv rfl trivial (.inl rfl) (kn0 (t := 4) (c := .int .i64 (k : Int)) (by kernel_rfl) rfl) (eqv_lasts _) ?_
          refine GW.mv rfl trivial (.inl rfl) (kn0 (t := 4) (c := .int .i64 (k : Int)) (by kernel_rfl) rfl) (eqv_lasts _) ?_
          refine GW.bin (.int .i64 ((k + 1 : Nat) : Int)) rfl trivial rfl (kn (t := 33) (j := 12) (by kernel_rfl)) knc (fun w' => by simp [go_sem, kw]) ?_
          refine GW.op (eqv (str [c])) rfl (eqv_lasts _) trivial (fun a w' hg hkn => ?_) ?_
          · have h1 : a.eval (.tmp 31) = str l := (kn (t := 31) (j := 10) (by kernel_rfl)) a w' hg hkn
            have h2 : a.eval (.tmp 32) = .int .i64 (k : Int) := (kn (t := 32) (j := 11) (by kernel_rfl)) a w' hg hkn
            have h3 : a.eval (.tmp 34) = .int .i64 ((k + 1 : Nat) : Int) := (kn (t := 34) (j := 13) (by kernel_rfl)) a w' hg hkn
            exact res_str2e (.tmp 31) (.tmp 32) (.tmp 34) Try.underlying9 rfl h1 h2 h3 (by omega) hc1.out
          refine GW.cat a ([c]) (by first | omega | (simp; done) | (simp; omega)) rfl trivial rfl (kn (t := 30) (j := 9) (by kernel_rfl)) (kn (t := 35) (j := 14) (by kernel_rfl)) ?_
          refine GW.p2 (.pointer (some (ad.add m))) rfl trivial (kn (t := 21) (j := 0) (by kernel_rfl)) (kn (t := 24) (j := 3) (by kernel_rfl)) (fun ρ w' h1 h2 hg => by show ((Instr.indexAt 50 (ρ (.tmp 21)) (ρ (.tmp 24)) >>= fun v => pure (Next.value v)) : Sem Next).run Try.prog w' = _; rw [h1, h2, Sem.run_bind, run_idxR w' Try.underlying50 (size := 1) (by kernel_rfl) ad _ _ m hmm]; simp) ?_
          refine GW.tail (m := 17) (by simp) (by kernel_rfl) (by kernel_rfl) (fun w' hg => ?_)
          rintro v0 - v1 - v2 - v3 - v4 - v5 - v6 - v7 - v8 - v9 - v10 - v11 - v12 - v13 - v14 - v15 h15 v16 h16
          obtain rfl : v15 = (str (a ++ ([c]))) := h15
          obtain rfl : v16 = (.pointer (some (ad.add m))) := h16
          simp only [GFin, List.take_succ_cons, List.take_zero, List.drop_succ_cons, List.drop_zero, Act.put, List.setIfInBounds_toArray, List.set_cons_succ, List.set_cons_zero]
          have hh := or_last (A := some ad) (c := c0) (OR.below (by have := hor2.out; rw [← had.out] at this; exact this) hg) (by rw [List.length_map]; exact hom)
          obtain ⟨g', e', hgb', hgl', hcell', hfz', hset'⟩ := hh
          obtain rfl : g = g' := by rw [had.out] at e'; injection e' with e'; injection e'
          have f9 := hfz' m
          have hs9 := hset' (str (a ++ [c]))
          rw [show [str (a ++ [c])] = strs [a ++ [c]] from rfl, ← strs_app] at hs9
          have hg9 : Gr w (w'.setCell ⟨g, m, none⟩ (str (a ++ [c]))) := (Below.trans hgr.out (Below.mono hg hws)).setCell (p := ⟨g, m, none⟩) hgb _
          replace hs9 := Lib.hid hs9
          replace hg9 := Lib.hid hg9
          rw [hadm]
          clear hset hset' hg hor2 hgr hfz hfz' hcell2 e' hbl
          go_wp2
          exact ⟨⟨k + 1, m + 1, o' ++ [a ++ [c]], some ad, c0, by omega, by omega, rfl, by go_num, Lib.hid ⟨hsp.out, by rw [List.length_append, hom]; rfl, hs9.out, hg9.out⟩⟩, by simp [intOf]; omega⟩
      · obtain rfl : k = l.length := by omega
        rw [List.take_length] at ho
        have hre : r = o := by rw [← hr.out, ho]
        clear hr ho
        subst hre hon
        go_wp2
        go_ret
        exact ⟨A0, c0, rfl, hor, hgr⟩
theorem cut_len (l : List UInt8) : (cut l).length ≤ l.length + 1 := by
  unfold cut
  split
  · simp
  · exact splitC_len l
theorem cut_each (l : List UInt8) : ∀ x ∈ cut l, x.length ≤ l.length := by
  unfold cut
  split
  · intro x hx; cases hx
  · exact splitC_each l
theorem row_str {w : World} {base n c : Nat} {A : Option Addr} {ls : List (List UInt8)} (h : Reads w base 1 A n (strs ls)) {k : Nat} (hk : k < ls.length) (hn : n = ls.length) : ∃ ad, A = some ad ∧ (ad.add k).block < base ∧ w.cell? (ad.add k) = some (str ls[k]) := by
  obtain ⟨ad, u, hA, hlt, hu, e0⟩ := Reads.at_ h (k := k) (by omega)
  refine ⟨ad, hA, by rw [block_of_add]; exact hlt, ?_⟩
  rw [List.getElem?_map, List.getElem?_eq_getElem hk] at hu
  rw [e0, ← hu]
  rfl
theorem allN_take {l : List (List UInt8)} {f : List UInt8 → Bool} {k : Nat} (h : k < l.length) : ((l.take (k + 1)).all f) = ((l.take k).all f && f l[k]) := by
  rw [List.take_succ_eq_append_getElem h, List.all_append]; simp
theorem allN_bad {l : List (List UInt8)} {f : List UInt8 → Bool} {k : Nat} (h : k < l.length) (hf : f l[k] = false) : l.all f = false := by
  rw [← List.take_append_drop (k + 1) l, List.all_append, allN_take h, hf]; simp
set_option maxRecDepth 100000 in
set_option maxHeartbeats 4000000 in
theorem refRight_any (l : List UInt8) (w : World) (hl : l.length ≤ 100000) : Calls Try.prog 30 #[str l] w fun e w' => e = .returned (.bool (right l)) ∧ Gr w w' := by
  have hcu := Lib.hid (refCut_any l w (by omega))
  obtain ⟨r, hr⟩ : ∃ r, right l = r := ⟨_, rfl⟩
  rw [hr]
  unfold right at hr
  have hcl := cut_len l
  have hce := cut_each l
  obtain ⟨L, hL⟩ : ∃ L, cut l = L := ⟨_, rfl⟩
  rw [hL] at hcu hr hcl hce
  replace hr := Lib.hid hr
  clear hL
  go_enter Try.func30, Try.ntmps30
  go_wp2_with fail
  go_at_call 52
  refine hcu.out.mono ?_
  rintro e w1 ⟨A2, c2, rfl, o2, g2⟩
  have t2 := Lib.hid (OR.reads o2)
  replace g2 := Lib.hid g2
  clear hcu o2
  go_wp2
  go_loop [4] (fun i => ∃ k : Nat, k ≤ L.length ∧ i = .int .i64 (k : Int) ∧ Hid ((L.take k).all name = true)) (fun i => L.length - (intOf i).toNat)
  case atStart => exact ⟨0, by omega, rfl, Lib.hid rfl⟩
  case round =>
    obtain ⟨k, hk, rfl, hq⟩ := hrel
    by_cases hkl : k < L.length
    · have ij : (k : Int) < (L.length : Int) := by omega
      have kw : IntKind.i64.wrap ((k : Int) + 1) = (k : Int) + 1 := IntWalk.i64_in _ (by omega)
      obtain ⟨ad, rfl, hlt, e0⟩ := row_str (c := c2) t2.out hkl rfl
      have hle := hce _ (List.getElem_mem hkl)
      have hnx := allN_take (f := name) hkl
      have hbd := fun h => allN_bad (f := name) (l := L) hkl h
      generalize L[k] = s at *
      rw [hq.out, Bool.true_and] at hnx
      replace hnx := Lib.hid hnx
      replace hbd := Lib.hid hbd
      go_wp2_with fail
      go_at_call 53
      refine (refName_any s _ (by omega)).mono ?_
      rintro e w' ⟨rfl, rfl⟩
      cases hb : name s with
      | true =>
        rw [hb] at hnx
        go_wp2
        exact ⟨⟨k + 1, by omega, by go_num, hnx⟩, by simp [intOf]; omega⟩
      | false =>
        have hrf : r = false := by rw [← hr.out, hbd.out hb]; rfl
        subst hrf
        go_wp2
        go_ret
        exact ⟨rfl, g2.out⟩
    · obtain rfl : k = L.length := by omega
      rw [List.take_length] at hq
      have hr2 := hr.out
      rw [hq.out, Bool.true_and] at hr2
      clear hr hq
      by_cases c1 : L.length ≤ 16
      · have i1 : (L.length : Int) ≤ 16 := by omega
        obtain rfl : r = true := by rw [← hr2, decide_eq_true c1]
        clear hr2
        go_wp2
        go_ret
        exact ⟨rfl, g2.out⟩
      · have i1 : ¬ (L.length : Int) ≤ 16 := by omega
        obtain rfl : r = false := by rw [← hr2, decide_eq_false c1]
        clear hr2
        go_wp2
        go_ret
        exact ⟨rfl, g2.out⟩
set_option maxRecDepth 100000 in
set_option maxHeartbeats 4000000 in
theorem refNames_any (l : List UInt8) (w : World) (hl : l.length ≤ 100000) : Calls Try.prog 59 #[str l] w (OutS w (names l)) := by
  have hri := Lib.hid (refRight_any l w hl)
  have hcu := Lib.hid (fun w => refCut_any l w (by omega))
  cases hb : right l with
  | true =>
    have hn : names l = cut l := by unfold names; rw [hb, if_pos rfl]
    rw [hn]
    rw [hb] at hri
    go_enter Try.func59, Try.ntmps59
    go_wp2_with fail
    go_at_call 30
    refine hri.out.mono ?_
    rintro e w1 ⟨rfl, g1⟩
    go_wp2_with fail
    go_at_call 52
    refine (hcu.out w1).mono ?_
    rintro e w2 ⟨A2, c2, rfl, o2, g2⟩
    have hz := Below.size g1
    have gg : Gr w w2 := Below.trans g1 (Below.mono g2 hz)
    have oo := OR.base_le o2 hz
    clear o2 g1 g2
    go_wp2
    go_ret
    exact ⟨A2, c2, rfl, oo, gg⟩
  | false =>
    have hn : names l = [] := by unfold names; rw [hb, if_neg (by simp)]
    rw [hn]
    rw [hb] at hri
    go_enter Try.func59, Try.ntmps59
    go_wp2_with fail
    go_at_call 30
    refine hri.out.mono ?_
    rintro e w1 ⟨rfl, g1⟩
    go_wp2
    go_ret
    exact ⟨none, 0, rfl, World.ownsRow_nil _ _ _ _, g1⟩
theorem glue_take (l : List (List UInt8)) {k : Nat} (h : k < l.length) (h0 : 0 < k) : glue (l.take (k + 1)) = (glue (l.take k) ++ [47]) ++ l[k] := by
  rw [List.take_succ_eq_append_getElem h, glue_snoc _ _ (by intro e; have := congrArg List.length e; rw [List.length_take, List.length_nil] at this; omega), List.append_assoc]
  rfl
theorem glue_len (l : List (List UInt8)) (m : Nat) (h : ∀ x ∈ l, x.length ≤ m) : (glue l).length ≤ l.length * (m + 1) := by
  induction l with
  | nil => simp [glue]
  | cons a l ih =>
    have h1 := h a (by simp)
    have h2 := ih (fun x hx => h x (by simp [hx]))
    cases l with
    | nil => show a.length ≤ _; simp; omega
    | cons b l =>
      show (a ++ 47 :: glue (b :: l)).length ≤ _
      rw [List.length_append, List.length_cons, List.length_cons, Nat.succ_mul]
      omega
set_option maxRecDepth 100000 in
set_option maxHeartbeats 4000000 in
theorem refGlue_any (A : Option Addr) (c n : Nat) (L : List (List UInt8)) (w : World) (hn : n = L.length) (hl : L.length ≤ 100000) (hm : ∀ x ∈ L, x.length ≤ 100000) (hr : Reads w w.heap.size 1 A n (strs L)) :
    Calls Try.prog 54 #[.slice A n c] w fun e w' => e = .returned (str (glue L)) ∧ w = w' := by
  subst hn
  obtain ⟨r, hgl⟩ : ∃ r, glue L = r := ⟨_, rfl⟩
  rw [hgl]
  replace hgl := Lib.hid hgl
  replace hr := Lib.hid hr
  go_enter Try.func54, Try.ntmps54
  go_wp2
  go_loop [3, 4] (fun v3 v4 => ∃ (k : Nat) (d : List UInt8), k ≤ L.length ∧ v3 = str d ∧ v4 = .int .i64 (k : Int) ∧ Hid (glue (L.take k) = d)) (fun _ v4 => L.length - (intOf v4).toNat)
  case atStart => exact ⟨0, [], by omega, rfl, rfl, Lib.hid rfl⟩
  case round =>
    obtain ⟨k, d, hk, rfl, rfl, hd⟩ := hrel
    by_cases hkl : k < L.length
    · have ij : (k : Int) < (L.length : Int) := by omega
      have kw : IntKind.i64.wrap ((k : Int) + 1) = (k : Int) + 1 := IntWalk.i64_in _ (by omega)
      obtain ⟨ad, rfl, hlt, e0⟩ := row_str (c := c) hr.out hkl rfl
      by_cases h0 : 0 < k
      · have i0 : (0 : Int) < (k : Int) := by omega
        have hg := glue_take L hkl h0
        rw [hd.out] at hg
        replace hg := Lib.hid hg
        have hsl := hm _ (List.getElem_mem hkl)
        have hdl := glue_len (L.take k) 100000 (fun x hx => hm x (List.mem_of_mem_take hx))
        rw [hd.out, List.length_take, Nat.min_eq_left hk] at hdl
        generalize L[k] = s at *
        have hdk : k * (100000 + 1) ≤ 100000 * (100000 + 1) := Nat.mul_le_mul_right _ (by omega)
        have q1 : ¬ 9223372036854775807 < d.length + 1 := by omega
        have q2 : ¬ 9223372036854775807 < d.length + 1 + s.length := by omega
        clear hdl hsl hdk
        go_wp2
        exact ⟨⟨k + 1, (d ++ [47]) ++ s, by omega, by simp, by go_num, hg⟩, by simp [intOf]; omega⟩
      · obtain rfl : k = 0 := by omega
        have hg : glue (L.take 1) = L[0] := by rw [List.take_succ_eq_append_getElem hkl, List.take_zero]; rfl
        have hd0 : d = [] := by rw [← hd.out]; rfl
        subst hd0
        replace hg := Lib.hid hg
        have hsl := hm _ (List.getElem_mem hkl)
        generalize L[0] = s at *
        have e1 : w.cell? ad = some (str s) := by have := e0; rwa [show ad.add 0 = ad by unfold Addr.add; split <;> simp_all] at this
        have q2 : ¬ 9223372036854775807 < s.length := by omega
        clear hsl e0
        go_wp2
        exact ⟨⟨1, s, by omega, by simp, by go_num, hg⟩, by simp [intOf]; omega⟩
    · obtain rfl : k = L.length := by omega
      have hd2 := hd.out
      rw [List.take_length, hgl.out] at hd2
      subst hd2
      go_wp2
      go_ret
      exact ⟨rfl, rfl⟩
end Pth
end Go.Proofs.Yteadcblmomngpaa
namespace Go.Proofs.Yteadcblmomngpaa
open Go Go.RowKit Go.Shelf W
namespace Pth
def parentV : Option (List UInt8) → Value
  | none => .tuple #[.string ⟨#[]⟩, .bool false]
  | some q => .tuple #[str q, .bool true]
theorem names_len (l : List UInt8) : (names l).length ≤ l.length + 1 := by
  unfold names
  split
  · exact cut_len l
  · simp
theorem names_each (l : List UInt8) : ∀ x ∈ names l, x.length ≤ l.length := by
  unfold names
  split
  · exact cut_each l
  · intro x hx; cases hx
set_option maxRecDepth 100000 in
set_option maxHeartbeats 4000000 in
theorem refParent_any (l : List UInt8) (w : World) (hl : l.length ≤ 90000) : Calls Try.prog 38 #[str l] w fun e w' => e = .returned (parentV (parent l)) ∧ Gr w w' := by
  have hna := Lib.hid (refNames_any l w (by omega))
  obtain ⟨r, hr⟩ : ∃ r, parent l = r := ⟨_, rfl⟩
  rw [hr]
  unfold parent at hr
  have hcl := names_len l
  have hce := names_each l
  obtain ⟨L, hL⟩ : ∃ L, names l = L := ⟨_, rfl⟩
  rw [hL] at hna hr hcl hce
  clear hL
  by_cases h0 : L = []
  · rw [if_pos h0] at hr
    subst hr h0
    go_enter Try.func38, Try.ntmps38
    go_wp2_with fail
    go_at_call 59
    refine hna.out.mono ?_
    rintro e w1 ⟨A2, c2, rfl, o2, g2⟩
    clear hna o2
    go_wp2
    go_ret2
    exact ⟨rfl, g2⟩
  · rw [if_neg h0] at hr
    obtain ⟨m, hm⟩ : ∃ m, L.length = m + 1 := ⟨L.length - 1, by have : L.length ≠ 0 := fun h => h0 (List.eq_nil_of_length_eq_zero h); omega⟩
    have hdl : L.dropLast = L.take m := by rw [List.dropLast_eq_take, hm]; rfl
    rw [hdl] at hr
    subst hr
    have hgl := Lib.hid (fun (A : Option Addr) (c : Nat) (w : World) (h : Reads w w.heap.size 1 A (m + 1) (strs L)) => (refGlue_any A c m (L.take m) w (by rw [List.length_take]; omega) (by rw [List.length_take]; omega) (fun x hx => Nat.le_trans (hce x (List.mem_of_mem_take hx)) (by omega)) (by have := Reads.take h (k := m) (by omega); rw [Nat.mul_one] at this; rw [show strs (L.take m) = (strs L).take m from List.map_take]; exact this)))
    obtain ⟨q, hq⟩ : ∃ q, glue (L.take m) = q := ⟨_, rfl⟩
    rw [hq] at hgl ⊢
    rw [hm] at hcl
    have ne0 : (((m + 1 : Nat) : Int) == 0) = false := by
      have : ¬ ((m + 1 : Nat) : Int) = 0 := by omega
      simpa using this
    have k1 : IntKind.i64.wrap (((m + 1 : Nat) : Int) - 1) = (m : Int) := by rw [IntKind.wrap_i64]; omega
    clear hq hce h0 hdl
    unfold OutS at hna
    rw [hm] at hna
    go_enter Try.func38, Try.ntmps38
    go_wp2_with fail
    go_at_call 59
    refine hna.out.mono ?_
    rintro e w1 ⟨A2, c2, rfl, o2, g2⟩
    have t2 := Lib.hid (OR.reads o2)
    obtain ⟨A', c', hv, hc1, hc2⟩ := OR.shape o2
    have hk2 : m + 1 ≤ c2 := by
      simp only [Value.slice.injEq] at hv
      omega
    replace g2 := Lib.hid g2
    clear hna o2 hv hc1 hc2
    have k2 : (m : Int) ≤ (c2 : Int) := by omega
    have ne1 : ((((m : Nat) : Int) + 1) == 0) = false := by rw [← ne0]; rfl
    go_wp2_with fail
    go_at_call 54
    refine (hgl.out A2 c2 w1 t2.out).mono ?_
    rintro e w2 ⟨rfl, rfl⟩
    go_wp2
    go_ret2
    exact ⟨rfl, g2.out⟩
theorem lastD_get (L : List (List UInt8)) (m : Nat) (hm : L.length = m + 1) : L.getLastD [] = L[m] := by
  have h : L ≠ [] := fun e => by rw [e] at hm; simp at hm
  rw [List.getLastD_eq_getLast?, List.getLast?_eq_some_getLast h, Option.getD_some, List.getLast_eq_getElem]
  congr 1
  omega
set_option maxRecDepth 100000 in
set_option maxHeartbeats 4000000 in
theorem refBase_any (l : List UInt8) (w : World) (hl : l.length ≤ 90000) : Calls Try.prog 49 #[str l] w fun e w' => e = .returned (str (base l)) ∧ Gr w w' := by
  have hna := Lib.hid (refNames_any l w (by omega))
  obtain ⟨r, hr⟩ : ∃ r, base l = r := ⟨_, rfl⟩
  rw [hr]
  unfold base at hr
  have hcl := names_len l
  obtain ⟨L, hL⟩ : ∃ L, names l = L := ⟨_, rfl⟩
  rw [hL] at hna hr hcl
  clear hL
  by_cases h0 : L = []
  · subst h0
    obtain rfl : [] = r := hr
    go_enter Try.func49, Try.ntmps49
    go_wp2_with fail
    go_at_call 59
    refine hna.out.mono ?_
    rintro e w1 ⟨A2, c2, rfl, o2, g2⟩
    clear hna o2
    go_wp2
    go_ret
    exact ⟨rfl, g2⟩
  · obtain ⟨m, hm⟩ : ∃ m, L.length = m + 1 := ⟨L.length - 1, by have : L.length ≠ 0 := fun h => h0 (List.eq_nil_of_length_eq_zero h); omega⟩
    rw [lastD_get L m hm] at hr
    have hmm : m < L.length := by omega
    rw [hm] at hcl
    have ne0 : (((m + 1 : Nat) : Int) == 0) = false := by
      have : ¬ ((m + 1 : Nat) : Int) = 0 := by omega
      simpa using this
    have k1 : IntKind.i64.wrap (((m + 1 : Nat) : Int) - 1) = (m : Int) := by rw [IntKind.wrap_i64]; omega
    have ne1 : ((((m : Nat) : Int) + 1) == 0) = false := by rw [← ne0]; rfl
    have ij : (m : Int) < ((m + 1 : Nat) : Int) := by omega
    clear h0
    unfold OutS at hna
    rw [hm] at hna
    go_enter Try.func49, Try.ntmps49
    go_wp2_with fail
    go_at_call 59
    refine hna.out.mono ?_
    rintro e w1 ⟨A2, c2, rfl, o2, g2⟩
    obtain ⟨ad, hA, hlt, e0⟩ := row_str (c := c2) (OR.reads o2) hmm hm.symm
    subst hA
    rw [hr] at e0
    replace g2 := Lib.hid g2
    clear hna o2 hlt hr
    go_wp2
    go_ret
    exact ⟨rfl, g2.out⟩
theorem n8_lt (c d : UInt8) : n8 c < n8 d ↔ c.toNat < d.toNat := by
  have h1 : n8 c = ((c.toNat : Nat) : Int) := rfl
  have h2 : n8 d = ((d.toNat : Nat) : Int) := rfl
  rw [h1, h2]; omega
theorem cmpT_at (a b : List UInt8) (k : Nat) (ha : k < a.length) (hb : k < b.length) : cmpT (a.drop k) (b.drop k) = if a[k].toNat < b[k].toNat then -1 else if b[k].toNat < a[k].toNat then 1 else cmpT (a.drop (k + 1)) (b.drop (k + 1)) := by
  rw [List.drop_eq_getElem_cons ha, List.drop_eq_getElem_cons hb, cmpT]
theorem cmpT_end (a b : List UInt8) (k : Nat) (ha : k ≤ a.length) (hb : k ≤ b.length) (h : ¬ (k < a.length ∧ k < b.length)) : cmpT (a.drop k) (b.drop k) = if a.length < b.length then -1 else if b.length < a.length then 1 else 0 := by
  by_cases h1 : k < a.length
  · have h2 : k = b.length := by omega
    subst h2
    rw [List.drop_length, List.drop_eq_getElem_cons h1, if_neg (by omega), if_pos h1]
    rfl
  · have h2 : k = a.length := by omega
    subst h2
    rw [List.drop_length]
    by_cases h3 : a.length < b.length
    · rw [List.drop_eq_getElem_cons h3, if_pos h3]
      rfl
    · rw [List.drop_of_length_le (by omega), if_neg h3, if_neg (by omega)]
      rfl
theorem res_bound (a b : List UInt8) : cmpT a b = -1 ∨ cmpT a b = 0 ∨ cmpT a b = 1 := by
  induction a generalizing b with
  | nil => cases b <;> simp [cmpT]
  | cons c a ih =>
    cases b with
    | nil => simp [cmpT]
    | cons d b =>
      rw [cmpT]
      split
      · simp
      · split
        · simp
        · exact ih b
set_option maxRecDepth 100000 in
set_option maxHeartbeats 4000000 in
theorem refText_any (a b : List UInt8) (w : World) (ha : a.length ≤ 1000000) (hb : b.length ≤ 1000000) : Calls Try.prog 58 #[str a, str b] w fun e w' => e = .returned (.int .i64 (cmpT a b)) ∧ Gr w w' := by
  obtain ⟨r, hr⟩ : ∃ r, cmpT a b = r := ⟨_, rfl⟩
  rw [hr]
  replace hr := Lib.hid hr
  have hg0 := Lib.hid (Gr.refl w)
  go_enter Try.func58, Try.ntmps58
  go_wp2
  go_loopw [5] (fun v5 wr => ∃ k : Nat, k ≤ a.length ∧ k ≤ b.length ∧ v5 = .int .i64 (k : Int) ∧ Hid (cmpT (a.drop k) (b.drop k) = r ∧ Gr w wr)) (fun v5 _ => a.length - (intOf v5).toNat)
  case atStart => exact ⟨0, by omega, by omega, rfl, Lib.hid ⟨hr.out, hg0.out⟩⟩
  case round =>
    clear hg0 hr
    obtain ⟨k, hka, hkb, rfl, hst⟩ := hrel
    obtain ⟨hq, hg⟩ := hst.out
    clear hst
    replace hg := Lib.hid hg
    by_cases h : k < a.length ∧ k < b.length
    · obtain ⟨h1, h2⟩ := h
      have i1 : (k : Int) < (a.length : Int) := by omega
      have i2 : (k : Int) < (b.length : Int) := by omega
      have kw : IntKind.i64.wrap ((k : Int) + 1) = (k : Int) + 1 := IntWalk.i64_in _ (by omega)
      rw [cmpT_at a b k h1 h2] at hq
      have hsz1 : k < (⟨a.toArray⟩ : ByteArray).size := by simpa [ByteArray.size] using h1
      have hsz2 : k < (⟨b.toArray⟩ : ByteArray).size := by simpa [ByteArray.size] using h2
      obtain ⟨c, hc⟩ : ∃ c, (⟨a.toArray⟩ : ByteArray)[k]'hsz1 = c := ⟨_, rfl⟩
      obtain ⟨d, hd⟩ : ∃ d, (⟨b.toArray⟩ : ByteArray)[k]'hsz2 = d := ⟨_, rfl⟩
      have hca : a[k] = c := hc
      have hdb : b[k] = d := hd
      rw [hca, hdb] at hq
      clear hca hdb
      by_cases c1 : c.toNat < d.toNat
      · have i3 : n8 c < n8 d := (n8_lt c d).2 c1
        rw [if_pos c1] at hq
        subst hq
        clear c1
        go_wp2
        go_region
        go_wp2
        go_ret
        exact ⟨rfl, Below.drew hg.out⟩
      · have i3 : ¬ n8 c < n8 d := fun h => c1 ((n8_lt c d).1 h)
        rw [if_neg c1] at hq
        by_cases c2 : d.toNat < c.toNat
        · have i4 : n8 d < n8 c := (n8_lt d c).2 c2
          rw [if_pos c2] at hq
          subst hq
          clear c1 c2
          go_wp2
          go_region
          go_wp2
          go_region
          go_wp2
          go_ret
          exact ⟨rfl, Below.drew (Below.drew hg.out)⟩
        · have i4 : ¬ n8 d < n8 c := fun h => c2 ((n8_lt d c).1 h)
          rw [if_neg c2] at hq
          replace hq := Lib.hid hq
          clear c1 c2
          go_wp2
          go_region
          go_wp2
          go_region
          go_wp2
          exact ⟨⟨k + 1, by omega, by omega, by go_num, Lib.hid ⟨hq.out, Below.drew (Below.drew hg.out)⟩⟩, by simp [intOf]; omega⟩
    · rw [cmpT_end a b k hka hkb h] at hq
      by_cases c1 : a.length < b.length
      · have i3 : (a.length : Int) < (b.length : Int) := by omega
        rw [if_pos c1] at hq
        subst hq
        have i1 : ¬ (k : Int) < (a.length : Int) := by omega
        go_wp2
        go_ret
        exact ⟨rfl, hg.out⟩
      · have i3 : ¬ (a.length : Int) < (b.length : Int) := by omega
        rw [if_neg c1] at hq
        have i2 : ¬ (k : Int) < (b.length : Int) := by omega
        by_cases c2 : b.length < a.length
        · have i4 : (b.length : Int) < (a.length : Int) := by omega
          rw [if_pos c2] at hq
          subst hq
          have i1 : (k : Int) < (a.length : Int) := by omega
          go_wp2
          go_ret
          exact ⟨rfl, hg.out⟩
        · have i4 : ¬ (b.length : Int) < (a.length : Int) := by omega
          rw [if_neg c2] at hq
          subst hq
          have i1 : ¬ (k : Int) < (a.length : Int) := by omega
          go_wp2
          go_ret
          exact ⟨rfl, hg.out⟩
end Pth
end Go.Proofs.Yteadcblmomngpaa
namespace Go.Proofs.Yteadcblmomngpaa
open Go Go.RowKit Go.Shelf W
namespace Pth
theorem cmpL_at (a b : List (List UInt8)) (k : Nat) (ha : k < a.length) (hb : k < b.length) : cmpL (a.drop k) (b.drop k) = if cmpT a[k] b[k] ≠ 0 then cmpT a[k] b[k] else cmpL (a.drop (k + 1)) (b.drop (k + 1)) := by
  rw [List.drop_eq_getElem_cons ha, List.drop_eq_getElem_cons hb, cmpL]
theorem cmpL_end (a b : List (List UInt8)) (k : Nat) (ha : k ≤ a.length) (hb : k ≤ b.length) (h : ¬ (k < a.length ∧ k < b.length)) : cmpL (a.drop k) (b.drop k) = if a.length < b.length then -1 else if b.length < a.length then 1 else 0 := by
  by_cases h1 : k < a.length
  · have h2 : k = b.length := by omega
    subst h2
    rw [List.drop_length, List.drop_eq_getElem_cons h1, if_neg (by omega), if_pos h1]
    rfl
  · have h2 : k = a.length := by omega
    subst h2
    rw [List.drop_length]
    by_cases h3 : a.length < b.length
    · rw [List.drop_eq_getElem_cons h3, if_pos h3]
      rfl
    · rw [List.drop_of_length_le (by omega), if_neg h3, if_neg (by omega)]
      rfl
set_option maxRecDepth 100000 in
set_option maxHeartbeats 4000000 in
theorem refCmp_any (p q : List UInt8) (w : World) (hp : p.length ≤ 90000) (hq : q.length ≤ 90000) : Calls Try.prog 37 #[str p, str q] w fun e w' => e = .returned (.int .i64 (cmp p q)) ∧ Gr w w' := by
  have hc1 := Lib.hid (refCut_any p w (by omega))
  have hc2 := Lib.hid (fun w => refCut_any q w (by omega))
  obtain ⟨r, hr⟩ : ∃ r, cmp p q = r := ⟨_, rfl⟩
  rw [hr]
  unfold cmp at hr
  have hal := cut_len p
  have hbl := cut_len q
  have hae := cut_each p
  have hbe := cut_each q
  obtain ⟨a, ha⟩ : ∃ a, cut p = a := ⟨_, rfl⟩
  obtain ⟨b, hb⟩ : ∃ b, cut q = b := ⟨_, rfl⟩
  rw [ha] at hc1 hr hal hae
  rw [hb] at hc2 hr hbl hbe
  have hae' : ∀ x ∈ a, x.length ≤ 90000 := fun x hx => Nat.le_trans (hae x hx) hp
  have hbe' : ∀ x ∈ b, x.length ≤ 90000 := fun x hx => Nat.le_trans (hbe x hx) hq
  clear ha hb hae hbe
  replace hr := Lib.hid hr
  go_enter Try.func37, Try.ntmps37
  go_wp2_with fail
  go_at_call 52
  refine hc1.out.mono ?_
  rintro e w1 ⟨A1, c1, rfl, o1, g1⟩
  have s1 := Below.size g1
  replace g1 := Lib.hid g1
  clear hc1
  replace o1 := Lib.hid o1
  go_wp2_with fail
  go_at_call 52
  refine (hc2.out w1).mono ?_
  rintro e w2 ⟨A2, c2, rfl, o2, g2⟩
  have t1 := Lib.hid (OR.reads (OR.below o1.out g2))
  have t2 := Lib.hid (OR.reads o2)
  have gg := Lib.hid (show Gr w w2 from Below.trans g1.out (Below.mono g2 s1))
  clear hc2 o1 o2 g1 g2 s1
  go_wp2
  go_loopw [7] (fun v7 wr => ∃ k : Nat, k ≤ a.length ∧ k ≤ b.length ∧ v7 = .int .i64 (k : Int) ∧ Hid (cmpL (a.drop k) (b.drop k) = r ∧ Gr w2 wr)) (fun v7 _ => a.length - (intOf v7).toNat)
  case atStart => exact ⟨0, by omega, by omega, rfl, Lib.hid ⟨hr.out, Gr.refl _⟩⟩
  case round =>
    clear hr
    obtain ⟨k, hka, hkb, rfl, hst⟩ := hrel
    obtain ⟨hq, hgk⟩ := hst.out
    clear hst
    have sk := Below.size hgk
    by_cases h : k < a.length ∧ k < b.length
    · obtain ⟨hkA, hkB⟩ := h
      have i1 : (k : Int) < (a.length : Int) := by omega
      have i2 : (k : Int) < (b.length : Int) := by omega
      have kw : IntKind.i64.wrap ((k : Int) + 1) = (k : Int) + 1 := IntWalk.i64_in _ (by omega)
      rw [cmpL_at a b k hkA hkB] at hq
      obtain ⟨ad, rfl, hbl1, e1⟩ := row_str (c := c1) (t1.out.below hgk) hkA rfl
      obtain ⟨bd, rfl, hbl2, e2⟩ := row_str (c := c2) (t2.out.below hgk) hkB rfl
      have hx := hae' _ (List.getElem_mem hkA)
      have hy := hbe' _ (List.getElem_mem hkB)
      have hbl1' : (ad.add k).block < wr.heap.size := by omega
      have hbl2' : (bd.add k).block < wr.heap.size := by omega
      generalize a[k] = s at *
      generalize b[k] = t at *
      replace hgk := Lib.hid hgk
      obtain ⟨z, hz⟩ : ∃ z, cmpT s t = z := ⟨_, rfl⟩
      have hte := Lib.hid (fun w => refText_any s t w (by omega) (by omega))
      rw [hz] at hq hte
      clear hz hbl1 hbl2 hx hy
      go_wp2
      refine region_grow rfl (by kernel_rfl) ?_
      refine GW.mv rfl trivial (.inl rfl) (kn0 (t := 5) (c := .slice (some ad) a.length c1) (by kernel_rfl) rfl) (eqv_lasts _) ?_
      refine GW.mv rfl trivial (.inl rfl) (kn0 (t := 7) (c := .int .i64 (k : Int)) (by kernel_rfl) rfl) (eqv_lasts _) ?_
      refine GW.p2 (.pointer (some (ad.add k))) rfl trivial (kn (t := 25) (j := 0) (by kernel_rfl)) (kn (t := 26) (j := 1) (by kernel_rfl)) (fun ρ w' h1 h2 hg => by show ((Instr.indexAt 50 (ρ (.tmp 25)) (ρ (.tmp 26)) >>= fun v => pure (Next.value v)) : Sem Next).run Try.prog w' = _; rw [h1, h2, Sem.run_bind, run_idxR w' Try.underlying50 (size := 1) (by kernel_rfl) ad _ _ k hkA]; simp) ?_
      refine GW.p1 (str s) rfl trivial (kn (t := 27) (j := 2) (by kernel_rfl)) (fun ρ w' hρ hg => by simp [execOp, hρ, go_sem, (hg.cell (p := (ad.add k)) hbl1').trans e1]) ?_
      refine GW.mv rfl trivial (.inl rfl) (kn0 (t := 6) (c := .slice (some bd) b.length c2) (by kernel_rfl) rfl) (eqv_lasts _) ?_
      refine GW.mv rfl trivial (.inl rfl) (kn0 (t := 7) (c := .int .i64 (k : Int)) (by kernel_rfl) rfl) (eqv_lasts _) ?_
      refine GW.p2 (.pointer (some (bd.add k))) rfl trivial (kn (t := 29) (j := 4) (by kernel_rfl)) (kn (t := 30) (j := 5) (by kernel_rfl)) (fun ρ w' h1 h2 hg => by show ((Instr.indexAt 50 (ρ (.tmp 29)) (ρ (.tmp 30)) >>= fun v => pure (Next.value v)) : Sem Next).run Try.prog w' = _; rw [h1, h2, Sem.run_bind, run_idxR w' Try.underlying50 (size := 1) (by kernel_rfl) bd _ _ k hkB]; simp) ?_
      refine GW.p1 (str t) rfl trivial (kn (t := 31) (j := 6) (by kernel_rfl)) (fun ρ w' hρ hg => by simp [execOp, hρ, go_sem, (hg.cell (p := (bd.add k)) hbl2').trans e2]) ?_
      refine GW.call2 (eqv (.int .i64 z)) rfl trivial rfl Try.func58 (by kernel_rfl) (by kernel_rfl) (eqv_lasts _) (kn (t := 28) (j := 3) (by kernel_rfl)) (kn (t := 32) (j := 7) (by kernel_rfl)) (fun v u w' hg hv hu => ?_) ?_
      · obtain rfl : v = _ := hv
        obtain rfl : u = _ := hu
        refine (hte.out w').mono ?_
        rintro e w9 ⟨rfl, hg9⟩
        exact ⟨_, rfl, rfl, hg9⟩
      refine GW.mv rfl trivial (.inr rfl) (kn (t := 33) (j := 8) (by kernel_rfl)) (eqv_lasts _) ?_
      refine GW.done (by simp) (by kernel_rfl) (fun w' hg => ?_)
      rintro v0 - v1 - v2 - v3 - v4 - v5 - v6 - v7 - v8 - v9 h9
      obtain rfl : v9 = (.int .i64 z) := h9
      simp only [GFin, Act.put, List.setIfInBounds_toArray, List.set_cons_succ, List.set_cons_zero]
      replace hgk := Lib.hid (show Gr w2 w' from Below.trans hgk.out (Below.mono hg sk))
      clear hg hte e1 e2 hbl1' hbl2'
      by_cases hz0 : z = 0
      · subst hz0
        rw [if_neg (by simp)] at hq
        replace hq := Lib.hid hq
        go_wp2
        exact ⟨⟨k + 1, by omega, by omega, by go_num, Lib.hid ⟨hq.out, hgk.out⟩⟩, by simp [intOf]; omega⟩
      · have hz1 : (z == 0) = false := by simpa using hz0
        rw [if_pos hz0] at hq
        subst hq
        go_wp2
        go_ret
        exact ⟨rfl, Below.trans gg.out (Below.mono hgk.out (Below.size gg.out))⟩
    · replace hgk := Lib.hid (show Gr w wr from Below.trans gg.out (Below.mono hgk (Below.size gg.out)))
      rw [cmpL_end a b k hka hkb h] at hq
      clear t1 t2 gg sk
      by_cases c1 : a.length < b.length
      · have i3 : (a.length : Int) < (b.length : Int) := by omega
        rw [if_pos c1] at hq
        subst hq
        have i1 : ¬ (k : Int) < (a.length : Int) := by omega
        go_wp2
        go_ret
        exact ⟨rfl, hgk.out⟩
      · have i3 : ¬ (a.length : Int) < (b.length : Int) := by omega
        rw [if_neg c1] at hq
        have i2 : ¬ (k : Int) < (b.length : Int) := by omega
        by_cases c2 : b.length < a.length
        · have i4 : (b.length : Int) < (a.length : Int) := by omega
          rw [if_pos c2] at hq
          subst hq
          have i1 : (k : Int) < (a.length : Int) := by omega
          go_wp2
          go_ret
          exact ⟨rfl, hgk.out⟩
        · have i4 : ¬ (b.length : Int) < (a.length : Int) := by omega
          rw [if_neg c2] at hq
          subst hq
          have i1 : ¬ (k : Int) < (a.length : Int) := by omega
          go_wp2
          go_ret
          exact ⟨rfl, hgk.out⟩
end Pth
end Go.Proofs.Yteadcblmomngpaa
namespace Go.Proofs.Yteadcblmomngpaa
open Go Go.RowKit W
namespace Tr
def nc (n : Nd) : List Value := [str n.p, .int .i64 n.kind, .int .i64 n.mode, .int .i64 n.time, str n.data]
abbrev nV (n : Nd) : Value := .agg #[str n.p, .int .i64 n.kind, .int .i64 n.mode, .int .i64 n.time, str n.data]
theorem nc_len (n : Nd) : (nc n).length = 5 := rfl
def ncs (l : List Nd) : List Value := l.flatMap nc
theorem ncs_len (l : List Nd) : (ncs l).length = l.length * 5 := flat_len nc 5 nc_len l
theorem ncs_append (a b : List Nd) : ncs (a ++ b) = ncs a ++ ncs b := by simp [ncs]
theorem ncs_one (n : Nd) : ncs [n] = nc n := by simp [ncs]
theorem ncs_one_cell (l : List Nd) : ∀ u ∈ ncs l, u.oneCell' = true := by
  intro u hu
  obtain ⟨t, _, h⟩ := List.mem_flatMap.1 hu
  simp [nc] at h
  rcases h with rfl | rfl | rfl | rfl | rfl <;> rfl
theorem ncs_take (l : List Nd) (k : Nat) : (ncs l).take (k * 5) = ncs (l.take k) := by
  by_cases h : k ≤ l.length
  · have e : ncs l = ncs (l.take k) ++ ncs (l.drop k) := by rw [← ncs_append, List.take_append_drop]
    rw [e, List.take_left' (by rw [ncs_len, List.length_take]; omega)]
  · rw [List.take_of_length_le (by rw [ncs_len]; omega), List.take_of_length_le (by omega)]
theorem ncs_drop (l : List Nd) (k : Nat) : (ncs l).drop (k * 5) = ncs (l.drop k) := by
  by_cases h : k ≤ l.length
  · have e : ncs l = ncs (l.take k) ++ ncs (l.drop k) := by rw [← ncs_append, List.take_append_drop]
    rw [e, List.drop_left' (by rw [ncs_len, List.length_take]; omega)]
  · rw [List.drop_of_length_le (by rw [ncs_len]; omega), List.drop_of_length_le (by omega)]
    rfl
/-- A slice that reads as nodes. -/
def NR (w : World) (B : Nat) (A : Option Addr) (l : List Nd) : Prop := Reads w B 5 A l.length (ncs l)
theorem NR.at_ {w : World} {B : Nat} {A : Option Addr} {l : List Nd} (h : NR w B A l) {k : Nat} (hk : k < l.length) : ∃ ad, A = some ad ∧ ad.block < B ∧ w.cell? (ad.add (k * 5)) = some (str (l[k]).p) ∧
    w.cell? ⟨(ad.add (k * 5)).block, (ad.add (k * 5)).off + 1, none⟩ = some (.int .i64 (l[k]).kind) ∧ w.cell? ⟨(ad.add (k * 5)).block, (ad.add (k * 5)).off + 2, none⟩ = some (.int .i64 (l[k]).mode) ∧
    w.cell? ⟨(ad.add (k * 5)).block, (ad.add (k * 5)).off + 3, none⟩ = some (.int .i64 (l[k]).time) ∧ w.cell? ⟨(ad.add (k * 5)).block, (ad.add (k * 5)).off + 4, none⟩ = some (str (l[k]).data) := by
  obtain ⟨ad, h1, h2, h3, h4⟩ := Reads.row nc_len rfl h hk (by omega)
  exact ⟨ad, h1, h2, h3 _ rfl, h4 1 _ (by omega) (by omega) rfl, h4 2 _ (by omega) (by omega) rfl, h4 3 _ (by omega) (by omega) rfl, h4 4 _ (by omega) (by omega) rfl⟩
theorem NR.below {w w' : World} {B : Nat} {A : Option Addr} {l : List Nd} (h : NR w B A l) (hb : Below B w w') : NR w' B A l := Reads.below h hb
theorem NR.more {w : World} {B B' : Nat} {A : Option Addr} {l : List Nd} (h : NR w B A l) (hB : B ≤ B') : NR w B' A l := Reads.more h hB
theorem NR.on {w w' : World} {A : Option Addr} {l : List Nd} (h : NR w w.heap.size A l) (hb : Gr w w') : NR w' w'.heap.size A l := (h.below hb).more (Below.size hb)
theorem NR.nil_ (w : World) (B : Nat) : NR w B none [] := ⟨rfl, fun h => absurd h (by decide)⟩
/-- An own slice of nodes. -/
def ON (w : World) (base : Nat) (v : Value) (l : List Nd) : Prop := OR 34 5 w base v l.length (ncs l)
theorem ON.nil_ (w : World) (base : Nat) : ON w base (.slice none 0 0) [] := World.ownsRow_nil _ _ _ _
theorem ON.nr {w : World} {base c : Nat} {A : Option Addr} {l : List Nd} (h : ON w base (.slice A l.length c) l) : NR w w.heap.size A l := OR.reads h
theorem ON.below {w w' : World} {base : Nat} {v : Value} {l : List Nd} (h : ON w base v l) (hb : Below w.heap.size w w') : ON w' base v l := OR.below h hb
theorem ON.alloc {w : World} {base : Nat} {v : Value} {l : List Nd} (h : ON w base v l) (o : Obj) : ON (w.alloc o) base v l := World.ownsRow.alloc h o
theorem ON.shape {w : World} {base : Nat} {v : Value} {l : List Nd} (h : ON w base v l) : ∃ A c, v = .slice A l.length c ∧ l.length ≤ c ∧ c ≤ maxLen := OR.shape h
theorem nodeRow : RowType Try.prog 34 5 56 := by
  obtain ⟨i, h1, h2, h3, h4⟩ := info_parts (show (Try.prog.info? 34).map (fun i => (i.zero, i.size, i.bytes)) = some (some (.agg #[.string ⟨#[]⟩, .int .i64 0, .int .i64 0, .int .i64 0, .string ⟨#[]⟩]), 5, 56) by kernel_rfl)
  exact ⟨i, _, h1, h2, h3, h4, rfl, by omega⟩
/-- One node in a new block. -/
theorem NR.new1 (w : World) (t : TypeId) (x : Nd) : NR (w.alloc (.cells #[str x.p, .int .i64 x.kind, .int .i64 x.mode, .int .i64 x.time, str x.data] t)) (w.heap.size + 1) (some ⟨w.heap.size, 0, none⟩) [x] := by
  refine ⟨rfl, fun _ => ⟨_, rfl, Nat.lt_succ_self _, fun j u hu => ?_⟩⟩
  have ha : (⟨w.heap.size, 0, none⟩ : Addr).add j = ⟨w.heap.size, j, none⟩ := by unfold Addr.add; split <;> simp_all
  rw [ha, (Blk.new w t _).cell]
  rw [ncs_one] at hu
  simpa [nc] using hu
/-- The place of the first one with a path, or -1. -/
def atI (l : List Nd) (p : List UInt8) : Int := match at_ l p with
  | some k => (k : Int)
  | none => -1
theorem at_here {l : List Nd} {p : List UInt8} {k : Nat} (hk : k < l.length) (h : l[k].p = p) (hn : ∀ x ∈ l.take k, x.p ≠ p) : at_ l p = some k := by
  unfold at_
  rw [List.findIdx?_eq_some_iff_getElem]
  refine ⟨hk, by simpa using h, fun j hj => ?_⟩
  have := hn l[j] (by rw [List.mem_take_iff_getElem]; exact ⟨j, by omega, rfl⟩)
  simpa using this
theorem at_nowhere {l : List Nd} {p : List UInt8} (hn : ∀ x ∈ l, x.p ≠ p) : at_ l p = none := by
  unfold at_
  rw [List.findIdx?_eq_none_iff]
  intro x hx
  simpa using hn x hx
theorem at_some {l : List Nd} {p : List UInt8} {k : Nat} (h : at_ l p = some k) : ∃ hk : k < l.length, l[k].p = p ∧ find l p = some l[k] := by
  unfold at_ at h
  rw [List.findIdx?_eq_some_iff_getElem] at h
  obtain ⟨hk, h1, h2⟩ := h
  refine ⟨hk, by simpa using h1, ?_⟩
  unfold find
  rw [List.find?_eq_some_iff_getElem]
  exact ⟨h1, k, hk, rfl, fun j hj => by have := h2 j hj; simpa using this⟩
theorem at_none {l : List Nd} {p : List UInt8} (h : at_ l p = none) : (∀ x ∈ l, x.p ≠ p) ∧ find l p = none := by
  unfold at_ at h
  rw [List.findIdx?_eq_none_iff] at h
  refine ⟨fun x hx => by have := h x hx; simpa using this, ?_⟩
  unfold find
  rw [List.find?_eq_none]
  intro x hx
  rw [h x hx]
  simp
end Tr
end Go.Proofs.Yteadcblmomngpaa
namespace Go.Proofs.Yteadcblmomngpaa
open Go Go.RowKit W Go.ChangeShapes Go.WideShapes Go.ChangeAt
namespace Tr
theorem NR.of_rows {w : World} {B : Nat} {A : Option Addr} (l : List Nd) (h : ∀ i (hi : i < l.length), ∃ ad, A = some ad ∧ ad.block < B ∧ ∀ j v, (nc l[i])[j]? = some v → w.cell? (ad.add (i * 5 + j)) = some v) : NR w B A l := by
  refine ⟨ncs_len l, fun hp => ?_⟩
  obtain ⟨ad, hA, hB, _⟩ := h 0 hp
  refine ⟨ad, hA, hB, fun j u hu => ?_⟩
  have hj : j < l.length * 5 := by
    have := (List.getElem?_eq_some_iff.1 hu).1
    rwa [ncs_len] at this
  have hi : j / 5 < l.length := by omega
  obtain ⟨ad', hA', _, hc⟩ := h (j / 5) hi
  rw [hA] at hA'
  cases hA'
  have e : j = j / 5 * 5 + j % 5 := by omega
  have hf := flat_at nc 5 nc_len l (j / 5) (j % 5) hi (by omega)
  rw [← e] at hf
  have hu' : (nc l[j / 5])[j % 5]? = some u := by rw [← hf]; exact hu
  have := hc (j % 5) u hu'
  rwa [← e] at this
instance : Inhabited Nd := ⟨⟨[], 0, 0, 0, []⟩⟩
theorem open_nodes {H : Type} {enc : TypeId × Value → H} {W : World} {base : Nat} {sp : Nat → Bool} {held : Bool} {a : Option Addr} {len cap : Nat} {d : DataW H} {p : List MemPlace}
    (h : DataW.Trod enc Try.prog W base sp held 22 (.slice a len cap) d p) : ∃ ls : List Nd, len = ls.length ∧ ls.length ≤ cap ∧ cap ≤ maxLen ∧ NR W W.heap.size a ls := by
  obtain ⟨hl, hm, hrow⟩ := Fr.open_rows Try.underlying22 Try.underlying34 (by kernel_rfl) (by kernel_rfl) (by decide) h
  have each : ∀ i, i < len → ∃ x : Nd, (∃ ad, a = some ad ∧ ad.block < W.heap.size ∧ ∀ j v, (nc x)[j]? = some v → W.cell? (ad.add (i * 5 + j)) = some v) := by
    intro i hi
    obtain ⟨ad, ha, hlt, cs, hlen, hcell, n, hf⟩ := hrow i hi
    obtain ⟨c0, c1, c2, c3, c4, rfl⟩ : ∃ c0 c1 c2 c3 c4, cs = [c0, c1, c2, c3, c4] := by
      match cs, hlen with
      | [c0, c1, c2, c3, c4], _ => exact ⟨c0, c1, c2, c3, c4, rfl⟩
    obtain ⟨y0, h0⟩ := hf 0 _ c0 rfl rfl
    obtain ⟨y1, h1⟩ := hf 1 _ c1 rfl rfl
    obtain ⟨y2, h2⟩ := hf 2 _ c2 rfl rfl
    obtain ⟨y3, h3⟩ := hf 3 _ c3 rfl rfl
    obtain ⟨y4, h4⟩ := hf 4 _ c4 rfl rfl
    obtain ⟨z0, e0, _, w0⟩ := DataW.trod_string Try.underlying9 h0
    obtain ⟨z1, e1, _, w1⟩ := DataW.trod_int Try.underlying3 h1
    obtain ⟨z2, e2, _, w2⟩ := DataW.trod_int Try.underlying3 h2
    obtain ⟨z3, e3, _, w3⟩ := DataW.trod_int Try.underlying3 h3
    obtain ⟨z4, e4, _, w4⟩ := DataW.trod_string Try.underlying9 h4
    obtain rfl : c0 = _ := List.cons.inj e0 |>.1
    obtain rfl : c1 = _ := List.cons.inj e1 |>.1
    obtain rfl : c2 = _ := List.cons.inj e2 |>.1
    obtain rfl : c3 = _ := List.cons.inj e3 |>.1
    obtain rfl : c4 = _ := List.cons.inj e4 |>.1
    refine ⟨⟨z0.data.toList, z1, z2, z3, z4.data.toList⟩, ad, ha, hlt, fun j v hv => hcell j v ?_⟩
    rw [← hv]
    match j with
    | 0 => rfl
    | 1 => rfl
    | 2 => rfl
    | 3 => rfl
    | 4 => rfl
    | j + 5 => rfl
  obtain ⟨L, hL⟩ := Deep.choose_lt each
  have hlen : ((List.range len).map L).length = len := by simp
  refine ⟨(List.range len).map L, hlen.symm, by omega, hm, NR.of_rows _ fun i hi => ?_⟩
  rw [hlen] at hi
  have e : ((List.range len).map L)[i]'(by omega) = L i := by simp
  rw [e]
  exact hL i hi
/-- An array of two texts, by value. -/
theorem open_arrS {H : Type} {enc : TypeId × Value → H} {P : Program} {W : World} {base : Nat} {sp : Nat → Bool} {held : Bool} {r : Reach} {b0 : Nat} {T E : TypeId} {v : Value} {d : DataW H} {p : List MemPlace}
    (hs : P.underlying T = some (.array 2 E)) (hC : P.cellsOf T = 2) (hc : P.cellsOf E = 1) (hE : P.underlying E = some .string)
    (hv : Value.okWide P W r b0 T v) (h : DataW.Trod enc P W base sp held T v d p) : ∃ x y : List UInt8, v = .agg #[str x, str y] := by
  have hcs : ∃ cs, v = .agg cs ∧ cs.size = P.cellsOf T := by
    simp only [Value.okWide, hs] at hv
    obtain ⟨cs, h1, h2, _⟩ := hv
    exact ⟨cs, h1, h2⟩
  obtain ⟨cs, rfl, hsz⟩ := hcs
  obtain ⟨c0, c1, rfl⟩ := Joins.array2 (hsz.trans hC)
  obtain ⟨fuel, hf⟩ := h
  obtain ⟨xs, m, _, _, _, hl, hg⟩ := DataW.trod_array hs hf
  match xs, hl with
  | [y0, y1], _ =>
    have k0 : DataW.trod enc P W base sp held m E [c0] = some y0 := by simpa [Value.cells, hc] using hg 0 (by omega)
    have k1 : DataW.trod enc P W base sp held m E [c1] = some y1 := by simpa [Value.cells, hc] using hg 1 (by omega)
    obtain ⟨m0, e0, _, w0⟩ := DataW.trod_string hE k0
    obtain ⟨m1, e1, _, w1⟩ := DataW.trod_string hE k1
    obtain rfl : c0 = _ := List.cons.inj e0 |>.1
    obtain rfl : c1 = _ := List.cons.inj e1 |>.1
    exact ⟨m0.data.toList, m1.data.toList, rfl⟩
end Tr
end Go.Proofs.Yteadcblmomngpaa
namespace Go.Proofs.Yteadcblmomngpaa
open Go Go.RowKit W Go.Maps
open Go.WideElems (Fit rd rg pl rd_key rg_of)
namespace Sm
/-- Whatever stands in the map, told as it is. -/
def Rv : Value → Option (DataW Value × List MemPlace) := fun v => some (.held v, [])
/-- Block b is a map of at most n entries; key k has what f says. -/
def SM (w : World) (b n : Nat) (f : List UInt8 → Option Value) : Prop :=
  ∃ D : DataW Value, w.ownsMap Try.prog 9 Rv b n D ∧ ∀ k : List UInt8, k.length ≤ maxLen → (∀ z, D.atKey (.string k) (.held z) = .held ((f k).getD z)) ∧ has D (.string k) = (f k).isSome
theorem keyd : Keyed Try.prog 9 := string_keyed Try.underlying9
theorem keyS {k : List UInt8} (hk : k.length ≤ maxLen) : keyOf Try.prog 9 (str k) = some (.string k) := WideMaps.keyOf_string_mk (s := ⟨k.toArray⟩) Try.underlying9 (by show k.toArray.size ≤ maxLen; rw [List.size_toArray]; exact hk)
theorem SM.made (w : World) : SM (w.alloc (.map #[] 0)) w.heap.size 0 (fun _ => none) :=
  ⟨_, World.ownsMap_made w _ _ _, fun k _ => ⟨fun z => rfl, rfl⟩⟩
theorem SM.lt {w : World} {b n : Nat} {f : List UInt8 → Option Value} (h : SM w b n f) : b < w.heap.size := by
  obtain ⟨D, h1, _⟩ := h
  exact h1.lt
theorem SM.mono {w : World} {b n m : Nat} {f : List UInt8 → Option Value} (h : SM w b n f) (hm : n ≤ m) : SM w b m f := by
  obtain ⟨D, h1, h2⟩ := h
  exact ⟨D, h1.mono hm, h2⟩
theorem SM.kept {w w' : World} {b n : Nat} {f : List UInt8 → Option Value} {row : Option Nat} (h : SM w b n f) (hg : w.grownBy w' row) (hne : some b ≠ row) : SM w' b n f := by
  obtain ⟨D, h1, h2⟩ := h
  exact ⟨D, h1.kept hg hne, h2⟩
theorem SM.ext {w w' : World} {b n : Nat} {f : List UInt8 → Option Value} (h : SM w b n f) (e : w'.heap[b]? = w.heap[b]?) : SM w' b n f := by
  obtain ⟨D, ⟨es, clock, hb, r⟩, h2⟩ := h
  exact ⟨D, ⟨es, clock, e.trans hb, r⟩, h2⟩
theorem SM.look {T E : TypeId} {w : World} {b n : Nat} {f : List UInt8 → Option Value} (h : SM w b n f) (ht : Try.prog.underlying T = some (.map 9 E)) {z : Value} (hz : (zeroValue E).run Try.prog w = .ok z w) {k : List UInt8} (hk : k.length ≤ maxLen) :
    (Instr.lookup T (.map (some b)) (str k) false).run Try.prog w = .ok ((f k).getD z) w := by
  obtain ⟨D, h1, h2⟩ := h
  obtain ⟨v, ps, hrun, hv⟩ := h1.lookup keyd ht hz (zd := .held z) rfl (keyS hk)
  have e : v = (f k).getD z := by
    have h3 : (DataW.held v, ([] : List MemPlace)) = (D.atKey (.string k) (.held z), ps) := Option.some.inj hv
    rw [(h2 k hk).1 z] at h3
    exact DataW.held.inj (Prod.mk.inj h3).1
  rw [← e]
  exact hrun
theorem SM.lookOk {T E : TypeId} {w : World} {b n : Nat} {f : List UInt8 → Option Value} (h : SM w b n f) (ht : Try.prog.underlying T = some (.map 9 E)) {z : Value} (hz : (zeroValue E).run Try.prog w = .ok z w) {k : List UInt8} (hk : k.length ≤ maxLen) :
    (Instr.lookup T (.map (some b)) (str k) true).run Try.prog w = .ok (.tuple #[(f k).getD z, .bool (f k).isSome]) w := by
  obtain ⟨D, h1, h2⟩ := h
  obtain ⟨v, ps, hrun, hv⟩ := h1.look_ok keyd ht hz (zd := .held z) rfl (keyS hk)
  have e : v = (f k).getD z := by
    have h3 : (DataW.held v, ([] : List MemPlace)) = (D.atKey (.string k) (.held z), ps) := Option.some.inj hv
    rw [(h2 k hk).1 z] at h3
    exact DataW.held.inj (Prod.mk.inj h3).1
  rw [← e, ← (h2 k hk).2]
  exact hrun
theorem SM.store {T E : TypeId} {w : World} {b n : Nat} {f : List UInt8 → Option Value} (h : SM w b n f) (ht : Try.prog.underlying T = some (.map 9 E)) (hn : n < maxLen) {k : List UInt8} (hk : k.length ≤ maxLen) (v : Value) :
    ∃ w', (Instr.mapUpdate T (.map (some b)) (str k) v).run Try.prog w = .ok () w' ∧ SM w' b (n + 1) (fun q => if q = k then some v else f q) ∧ w.grownBy w' (some b) ∧ w'.heap.size = w.heap.size := by
  obtain ⟨D, h1, h2⟩ := h
  obtain ⟨w', hrun, r1, es, clock, es', clock', hb, rfl⟩ := h1.store keyd ht hn (val := v) (keyS hk) rfl
  refine ⟨_, hrun, ⟨_, r1, fun q hq => ?_⟩, World.mapTurned.grown ⟨es, clock, es', clock', hb, rfl⟩, by simp [ChangeMaps.setBlock]⟩
  by_cases e : q = k
  · subst e
    simp only [if_true]
    exact ⟨fun z => by rw [atKey_put_same h1.isMap (keyd.key (keyS hk))]; rfl, by rw [has_put_same h1.isMap (keyd.key (keyS hk))]; rfl⟩
  · have hne : (Lit.string q) ≠ .string k := fun h => e (by injection h)
    simp only [if_neg e]
    exact ⟨fun z => by rw [atKey_put_other hne]; exact (h2 q hq).1 z, by rw [has_put_other hne]; exact (h2 q hq).2⟩
/-- No more entries than keys that can be. -/
theorem SM.few {w : World} {b n : Nat} {f : List UInt8 → Option Value} (h : SM w b n f) (L : List (List UInt8)) (hL : ∀ k v, f k = some v → k ∈ L) : SM w b L.length f := by
  obtain ⟨D, h1, h2⟩ := h
  obtain ⟨es, clock, hb, F, hs, rfl⟩ := h1
  refine ⟨_, ⟨es, clock, hb, F, ?_, rfl⟩, h2⟩
  have hp := fit_apart keyd F
  have hmem : ∀ p ∈ es.toList.map (rg Try.prog 9 Rv), p.1 ∈ L.map Lit.string := by
    intro p hp'
    obtain ⟨x, hx, rfl⟩ := List.mem_map.1 hp'
    obtain ⟨y, hy⟩ := F.reads x hx
    have hk := rd_key hy
    rw [rg_of hy]
    obtain ⟨s, hxs, hys, hsl⟩ := WideMaps.string_of_keyOf Try.underlying9 hk
    have hh : has (DataW.map ((es.toList.map (rg Try.prog 9 Rv)).foldr DataW.insert [])) (.string s.data.toList) = true := by
      rw [has_eq, List.any_eq_true]
      refine ⟨y, (WideShapes.sorted_perm _).mem_iff.2 (List.mem_map.2 ⟨x, hx, rg_of hy⟩), ?_⟩
      rw [hys]
      exact WideAt.sameKey_self (keyd.key (hys ▸ hk))
    rw [(h2 s.data.toList (by rw [Array.length_toList]; exact hsl)).2] at hh
    obtain ⟨v, hv⟩ := Option.isSome_iff_exists.1 hh
    rw [hys]
    exact List.mem_map.2 ⟨_, hL _ v hv, rfl⟩
  have hnd : ((es.toList.map (rg Try.prog 9 Rv)).map (·.1)).Nodup := by
    rw [List.Nodup, List.pairwise_map]
    exact hp
  have := hnd.length_le_of_subset (l₂ := L.map Lit.string) (fun k hk => by
    obtain ⟨p, hp, rfl⟩ := List.mem_map.1 hk
    exact hmem p hp)
  simpa using this
end Sm
end Go.Proofs.Yteadcblmomngpaa
namespace Go.Proofs.Yteadcblmomngpaa
open Vint Pth
namespace Pth
theorem name_ne {s : List UInt8} (h : name s = true) : s ≠ [] := by
  rintro rfl
  simp [name] at h
theorem name_len {s : List UInt8} (h : name s = true) : s.length ≤ 12 := by
  unfold name at h
  simp only [Bool.and_eq_true, decide_eq_true_eq] at h
  exact h.1.1.1.2
theorem name_slash {s : List UInt8} (h : name s = true) : ∀ c ∈ s, c ≠ 47 := by
  unfold name at h
  simp only [Bool.and_eq_true, List.all_eq_true] at h
  intro c hc e
  have := h.2 c hc
  rw [e] at this
  exact absurd this (by decide)
theorem splitC_glue (a : List UInt8) (l : List (List UInt8)) (h : ∀ x ∈ a :: l, ∀ c ∈ x, c ≠ 47) : splitC (glue (a :: l)) = a :: l := by
  induction l generalizing a with
  | nil => exact splitC_none (h a (by simp))
  | cons b l ih =>
    show splitC (a ++ 47 :: glue (b :: l)) = _
    rw [splitC_some a _ (h a (by simp)), ih b (fun x hx => h x (List.mem_cons_of_mem _ hx))]
theorem glue_ne {l : List (List UInt8)} (h : l ≠ []) (hn : ∀ x ∈ l, name x = true) : glue l ≠ [] := by
  cases l with
  | nil => exact absurd rfl h
  | cons a l =>
    cases l with
    | nil => exact name_ne (hn a (by simp))
    | cons b l =>
      show a ++ 47 :: glue (b :: l) ≠ []
      simp
theorem cut_glue {l : List (List UInt8)} (hn : ∀ x ∈ l, name x = true) : cut (glue l) = l := by
  by_cases h : l = []
  · subst h; rfl
  · unfold cut
    rw [if_neg (glue_ne h hn)]
    cases l with
    | nil => exact absurd rfl h
    | cons a l => exact splitC_glue a l (fun x hx => name_slash (hn x hx))
theorem right_iff (p : List UInt8) : right p = true ↔ (∀ x ∈ cut p, name x = true) ∧ (cut p).length ≤ 16 := by
  unfold right
  simp [List.all_eq_true]
theorem names_right {p : List UInt8} (h : right p = true) : names p = cut p := if_pos h
theorem names_wrong {p : List UInt8} (h : right p = false) : names p = [] := by unfold names; rw [h]; rfl
theorem names_each_name (p : List UInt8) : ∀ x ∈ names p, name x = true := by
  cases h : right p with
  | true => rw [names_right h]; exact ((right_iff p).1 h).1
  | false => rw [names_wrong h]; simp
theorem names_len16 (p : List UInt8) : (names p).length ≤ 16 := by
  cases h : right p with
  | true => rw [names_right h]; exact ((right_iff p).1 h).2
  | false => rw [names_wrong h]; simp
theorem right_glue {l : List (List UInt8)} (hn : ∀ x ∈ l, name x = true) (hl : l.length ≤ 16) : right (glue l) = true := by
  rw [right_iff, cut_glue hn]
  exact ⟨hn, hl⟩
theorem names_glue {l : List (List UInt8)} (hn : ∀ x ∈ l, name x = true) (hl : l.length ≤ 16) : names (glue l) = l := by
  rw [names_right (right_glue hn hl), cut_glue hn]
theorem glue_names {p : List UInt8} (h : right p = true) : glue (names p) = p := by rw [names_right h, glue_cut]
theorem parent_names {p q : List UInt8} (h : parent p = some q) : names q = (names p).dropLast ∧ names p ≠ [] ∧ right q = true := by
  unfold parent at h
  by_cases e : names p = []
  · rw [if_pos e] at h; cases h
  · rw [if_neg e] at h
    injection h with h
    subst h
    have hn : ∀ x ∈ (names p).dropLast, name x = true := fun x hx => names_each_name p x ((List.dropLast_sublist _).subset hx)
    have hl : (names p).dropLast.length ≤ 16 := by rw [List.length_dropLast]; have := names_len16 p; omega
    exact ⟨names_glue hn hl, e, right_glue hn hl⟩
theorem parent_depth {p q : List UInt8} (h : parent p = some q) : (names p).length = (names q).length + 1 := by
  obtain ⟨h1, h2, _⟩ := parent_names h
  rw [h1, List.length_dropLast]
  have : (names p).length ≠ 0 := fun e => h2 (List.eq_nil_of_length_eq_zero e)
  omega
theorem base_len (p : List UInt8) : (base p).length ≤ 12 := by
  unfold base
  by_cases h : names p = []
  · rw [h]; simp
  · rw [List.getLastD_eq_getLast?, List.getLast?_eq_some_getLast h, Option.getD_some]
    exact name_len (names_each_name p _ (List.getLast_mem h))
end Pth
namespace Tr
/-- One beneath, as it is summed. -/
def entry (t : List Nd) (d : Nat) (k : Nd) : List UInt8 := text (base k.p) ++ (num (UInt64.ofInt k.kind).toNat ++ sum (Mix.of (textF t d k.p)).1 (Mix.of (textF t d k.p)).2)
theorem sum_length (x y : UInt64) : (sum x y).length = 16 := by unfold sum; rw [List.length_append, be8_length, be8_length]
theorem num_len10 (x : UInt64) : (num x.toNat).length ≤ 10 := num_length 9 _ (by have := x.toNat_lt; exact Nat.lt_of_lt_of_le this (by decide))
theorem entry_len (t : List Nd) (d : Nat) (k : Nd) : (entry t d k).length ≤ 39 := by
  unfold entry text
  rw [List.length_append, List.length_append, List.length_append, sum_length]
  have h1 := base_len k.p
  have h2 := num_len10 (UInt64.ofInt k.kind)
  have h3 : (num (base k.p).length).length ≤ 1 := num_length 0 _ (by omega)
  omega
theorem flat_len_le {α : Type} (f : α → List UInt8) (m : Nat) (h : ∀ x, (f x).length ≤ m) (l : List α) : (l.flatMap f).length ≤ l.length * m := by
  induction l with
  | nil => simp
  | cons a l ih =>
    have := h a
    rw [List.flatMap_cons, List.length_append, List.length_cons, Nat.succ_mul]
    omega
/-- Is a path no directory's? -/
def leaf (t : List Nd) (p : List UInt8) : Prop := p ≠ [] ∧ (find t p).any (fun n => decide (n.kind ≠ 1)) = true
theorem textF_leaf {t : List Nd} {d : Nat} {p : List UInt8} (h : p ≠ [] ∧ (find t p).any (fun n => decide (n.kind ≠ 1)) = true) : textF t (d + 1) p = ((find t p).map (·.data)).getD [] := by
  rw [textF, if_pos h]
theorem textF_dir {t : List Nd} {d : Nat} {p : List UInt8} (h : ¬ (p ≠ [] ∧ (find t p).any (fun n => decide (n.kind ≠ 1)) = true)) : textF t (d + 1) p = (kids t p).flatMap (entry t d) := by
  rw [textF, if_neg h]
  rfl
theorem textF_len {t : List Nd} (ht : t.length ≤ 1000) (hd : ∀ x ∈ t, x.data.length ≤ 1000000) (d : Nat) (p : List UInt8) : (textF t d p).length ≤ 1000000 := by
  cases d with
  | zero => simp [textF]
  | succ d =>
    by_cases h : p ≠ [] ∧ (find t p).any (fun n => decide (n.kind ≠ 1)) = true
    · rw [textF_leaf h]
      cases e : find t p with
      | none => simp
      | some n => exact hd n (List.mem_of_find?_eq_some e)
    · rw [textF_dir h]
      refine Nat.le_trans (flat_len_le _ 39 (entry_len t d) _) ?_
      have : (kids t p).length ≤ 1000 := Nat.le_trans (List.length_filter_le _ _) ht
      omega
theorem kids_depth {t : List Nd} {p : List UInt8} {k : Nd} (h : k ∈ kids t p) : (names k.p).length = (names p).length + 1 := by
  unfold kids at h
  have := (List.mem_filter.1 h).2
  exact parent_depth (by simpa using this)
theorem kids_mem {t : List Nd} {p : List UInt8} {k : Nd} (h : k ∈ kids t p) : k ∈ t := (List.mem_filter.1 h).1
/-- More than the names that are left is enough. -/
theorem textF_more {t : List Nd} : ∀ (d d' : Nat) (p : List UInt8), 17 ≤ d + (names p).length → 17 ≤ d' + (names p).length → textF t d p = textF t d' p := by
  intro d
  induction d with
  | zero => intro d' p h; have := names_len16 p; omega
  | succ d ih =>
    intro d' p h h'
    cases d' with
    | zero => have := names_len16 p; omega
    | succ d' =>
      by_cases hl : p ≠ [] ∧ (find t p).any (fun n => decide (n.kind ≠ 1)) = true
      · rw [textF_leaf hl, textF_leaf hl]
      · rw [textF_dir hl, textF_dir hl]
        have : ∀ k ∈ kids t p, entry t d k = entry t d' k := fun k hk => by
          have hd := kids_depth hk
          unfold entry
          rw [ih d' k.p (by omega) (by omega)]
        rw [List.flatMap_def, List.flatMap_def, List.map_congr_left this]
theorem textF_P {t : List Nd} {d : Nat} {p : List UInt8} (h : 17 ≤ d + (names p).length) : textF t d p = textP t p := textF_more d 20 p h (by omega)
theorem textP_leaf {t : List Nd} {p : List UInt8} (h : p ≠ [] ∧ (find t p).any (fun n => decide (n.kind ≠ 1)) = true) : textP t p = ((find t p).map (·.data)).getD [] := textF_leaf h
/-- One beneath, as it is summed. -/
def entryP (t : List Nd) (k : Nd) : List UInt8 := text (base k.p) ++ (num (UInt64.ofInt k.kind).toNat ++ sum (Mix.of (textP t k.p)).1 (Mix.of (textP t k.p)).2)
theorem textP_dir {t : List Nd} {p : List UInt8} (h : ¬ (p ≠ [] ∧ (find t p).any (fun n => decide (n.kind ≠ 1)) = true)) : textP t p = (kids t p).flatMap (entryP t) := by
  unfold textP
  rw [textF_dir h]
  have : ∀ k ∈ kids t p, entry t 19 k = entryP t k := fun k hk => by
    have hd := kids_depth hk
    unfold entry entryP
    rw [textF_P (by omega)]
  rw [List.flatMap_def, List.flatMap_def, List.map_congr_left this]
theorem entryP_len (t : List Nd) (k : Nd) : (entryP t k).length ≤ 39 := by
  unfold entryP text
  rw [List.length_append, List.length_append, List.length_append, sum_length]
  have h1 := base_len k.p
  have h2 := num_len10 (UInt64.ofInt k.kind)
  have h3 : (num (base k.p).length).length ≤ 1 := num_length 0 _ (by omega)
  omega
theorem textP_len {t : List Nd} (ht : t.length ≤ 1000) (hd : ∀ x ∈ t, x.data.length ≤ 1000000) (p : List UInt8) : (textP t p).length ≤ 1000000 := textF_len ht hd 20 p
end Tr
end Go.Proofs.Yteadcblmomngpaa
namespace Go.Proofs.Yteadcblmomngpaa
open Go Go.RowKit Go.Shelf W Pth
namespace Tr
set_option maxRecDepth 100000 in
set_option maxHeartbeats 2000000 in
theorem refAt_any (A : Option Addr) (c n : Nat) (l : List Nd) (p : List UInt8) (w : World) (B : Nat) (hn : n = l.length) (h : NR w B A l) (hl : l.length ≤ 1000000) :
    Calls Try.prog 12 #[.slice A n c, str p] w fun e w' => e = .returned (.int .i64 (atI l p)) ∧ w = w' := by
  subst hn
  replace h := Lib.hid h
  obtain ⟨r, hr⟩ : ∃ r, atI l p = r := ⟨_, rfl⟩
  rw [hr]
  replace hr := Lib.hid hr
  go_enter Try.func12, Try.ntmps12
  go_wp2
  go_loop [5] (fun v5 => ∃ k : Nat, k ≤ l.length ∧ v5 = .int .i64 (k : Int) ∧ Hid (∀ x ∈ l.take k, x.p ≠ p)) (fun v5 => l.length - (intOf v5).toNat)
  case atStart => exact ⟨0, by omega, rfl, Lib.hid (by simp)⟩
  case round =>
    obtain ⟨k, hk, rfl, hq⟩ := hrel
    by_cases hkl : k < l.length
    · have ij : (k : Int) < (l.length : Int) := by omega
      have kw : IntKind.i64.wrap ((k : Int) + 1) = (k : Int) + 1 := IntWalk.i64_in _ (by omega)
      obtain ⟨ad, rfl, hlt, e0, _, _, _, _⟩ := h.out.at_ hkl
      have hh : ∀ q, l[k].p = q → q = p → at_ l p = some k := fun q e1 e2 => at_here hkl (e1.trans e2) hq.out
      have hx : ∀ q, l[k].p = q → q ≠ p → ∀ x ∈ l.take (k + 1), x.p ≠ p := fun q e1 e2 x hx => by
        rw [List.take_succ_eq_append_getElem hkl] at hx
        rcases List.mem_append.1 hx with hx | hx
        · exact hq.out x hx
        · obtain rfl : x = l[k] := by simpa using hx
          rw [e1]; exact e2
      generalize hs : l[k].p = s at *
      replace hh := Lib.hid (hh s rfl)
      replace hx := Lib.hid (hx s rfl)
      clear hs
      by_cases hp : s = p
      · have hpb : (s == p) = true := by simpa using hp
        obtain rfl : r = (k : Int) := by rw [← hr.out]; unfold atI; rw [hh.out hp]
        clear hx hh hp
        go_wp2
        go_ret
        exact ⟨rfl, rfl⟩
      · have hpb : (s == p) = false := by simpa using hp
        replace hx := Lib.hid (hx.out hp)
        clear hh hp
        go_wp2
        exact ⟨⟨k + 1, by omega, by go_num, hx⟩, by simp [intOf]; omega⟩
    · obtain rfl : k = l.length := by omega
      rw [List.take_length] at hq
      obtain rfl : r = -1 := by rw [← hr.out]; unfold atI; rw [at_nowhere hq.out]
      clear hq hr
      go_wp2
      go_ret
      exact ⟨rfl, rfl⟩
set_option maxRecDepth 100000 in
set_option maxHeartbeats 2000000 in
theorem refParent_any (A : Option Addr) (c n : Nat) (l : List Nd) (p : List UInt8) (w : World) (hn : n = l.length) (h : NR w w.heap.size A l) (hl : l.length ≤ 1000000) (hp : p.length ≤ 90000) :
    Calls Try.prog 21 #[.slice A n c, str p] w fun e w' => e = .returned (.int .i64 ((parentC l p : Nat) : Int)) ∧ Gr w w' := by
  subst hn
  have hpa := Lib.hid (Pth.refParent_any p w hp)
  replace h := Lib.hid h
  obtain ⟨r, hr⟩ : ∃ r, parentC l p = r := ⟨_, rfl⟩
  rw [hr]
  obtain ⟨ok, q, hq1, hq2⟩ : ∃ (ok : Bool) (q : List UInt8), parentV (parent p) = .tuple #[str q, .bool ok] ∧ (parent p).getD [] = q := by
    cases e : parent p with
    | none => exact ⟨false, [], rfl, rfl⟩
    | some q => exact ⟨true, q, rfl, rfl⟩
  rw [hq1] at hpa
  unfold parentC at hr
  rw [hq2] at hr
  clear hq1 hq2
  go_enter Try.func21, Try.ntmps21
  go_wp2_with fail
  go_at_call 38
  refine hpa.out.mono ?_
  rintro e w1 ⟨rfl, g1⟩
  have h1 := Lib.hid (h.out.below g1)
  have hat := Lib.hid (refAt_any A c l.length l q w1 w.heap.size rfl h1.out hl)
  replace g1 := Lib.hid g1
  clear hpa h
  go_wp2_with fail
  go_at_call 12
  refine hat.out.mono ?_
  rintro e w2 ⟨rfl, rfl⟩
  clear hat
  by_cases h0 : q = []
  · subst h0
    rw [if_pos rfl] at hr
    subst hr
    go_wp2
    go_ret
    exact ⟨rfl, g1.out⟩
  · have hb0 : (q == []) = false := by simpa using h0
    rw [if_neg h0] at hr
    cases e : at_ l q with
    | none =>
      rw [(at_none e).2] at hr
      have hi : atI l q = -1 := by unfold atI; rw [e]
      rw [hi]
      subst hr
      go_wp2
      go_ret
      exact ⟨rfl, g1.out⟩
    | some k =>
      obtain ⟨hkl, _, hf⟩ := at_some e
      rw [hf] at hr
      have hi : atI l q = (k : Int) := by unfold atI; rw [e]
      rw [hi]
      obtain ⟨ad, rfl, hlt, _, e1, _, _, _⟩ := h1.out.at_ hkl
      have hk0 : ¬ (k : Int) < 0 := by omega
      have ij : (k : Int) < (l.length : Int) := by omega
      generalize l[k] = x at *
      simp only at hr
      clear e hf hi
      by_cases hk1 : x.kind = 1
      · have hkb : (x.kind == 1) = true := by simpa using hk1
        rw [if_neg (by simpa using hk1)] at hr
        subst hr
        clear hk1
        go_wp2
        go_ret
        exact ⟨rfl, g1.out⟩
      · have hkb : (x.kind == 1) = false := by simpa using hk1
        rw [if_pos hk1] at hr
        subst hr
        clear hk1
        go_wp2
        go_ret
        exact ⟨rfl, g1.out⟩

end Tr
end Go.Proofs.Yteadcblmomngpaa
namespace Go.Proofs.Yteadcblmomngpaa
open Go Go.RowKit Go.Shelf W Pth
namespace Tr
theorem wpList_append_empty {P : Program} {E : TypeId} {size base g : Nat} {w : World} {ops : Array Oper} {rest : List Oper} {o : Oper} {a : Act} {Q : Exit → Act → World → Prop} (hgd : o.guard = none) (s x : Operand) (T : TypeId)
    (ho : o.op = .call { callee := .builtin .append, args := #[s, x], argTypes := #[T, T] }) {bytes : Nat} (ht : P.underlying T = some (.slice E)) (hE : RowType P E size bytes) (hs : a.eval s = .slice (some ⟨g, 0, none⟩) 0 0) (hown : OR E size w base (.slice (some ⟨g, 0, none⟩) 0 0) 0 [])
    (B : Nat) (A : Option Addr) (m c : Nat) (news : List Value) (hx : a.eval x = .slice A m c) (hr : Reads w B size A m news) (h1 : ∀ u ∈ news, u.oneCell' = true) (hlen : m ≤ maxLen) (hby : m * bytes ≤ 140737488355328) (hbase : base ≤ w.heap.size)
    (h : ∀ A' c' w', OR E size w' base (.slice A' m c') m news → Gr w w' → wpList P ops Q rest (a.put o.dst (.slice A' m c')) w') : wpList P ops Q (o :: rest) a w :=
  wpList_wanted (by simp [Region.wanted, hgd]) fun _ hK => by
    obtain ⟨A', c', w', hrun, h2, h3⟩ := run_append_empty (P := P) T o.type ht hE hown B A m c news hr h1 hlen hby hbase
    unfold Oper.wp execOp
    simp only [ho, resolve, invoke, builtin, Sem.run_bind, Sem.run_pure, Result.andThen_ok, List.map_toArray, List.map_cons, List.map_nil, hs, hx, hrun]
    exact hK _ _ (h A' c' w' h2 h3)
/-- Where a slice begins that leaves out m nodes ahead. -/
def offN (A : Option Addr) (c m : Nat) : Option Addr := if c = m then A else A.map (·.add (m * 5))
theorem NR.take_ {w : World} {B : Nat} {A : Option Addr} {l : List Nd} (h : NR w B A l) {k : Nat} (hk : k ≤ l.length) : Reads w B 5 A k (ncs (l.take k)) := by
  have := Reads.take h hk
  rwa [ncs_take] at this
theorem NR.drop_ {w : World} {B : Nat} {A : Option Addr} {l : List Nd} {c m : Nat} (h : NR w B A l) (hm : m ≤ l.length) (hc : l.length ≤ c) : Reads w B 5 (offN A c m) (l.length - m) (ncs (l.drop m)) := by
  refine ⟨by rw [ncs_len, List.length_drop], fun h0 => ?_⟩
  obtain ⟨ad, h1, h2, h3⟩ := h.2 (by omega)
  subst h1
  unfold offN
  rw [if_neg (by omega)]
  refine ⟨_, rfl, by rw [block_of_add]; exact h2, fun j u hu => ?_⟩
  rw [Addr.add_add]
  refine h3 _ u ?_
  rw [← ncs_drop, List.getElem?_drop] at hu
  exact hu
theorem run_slice_lo {P : Program} {w : World} {T E : TypeId} (hT : P.underlying T = some (.slice E)) (hE : (P.info? E).map (·.size) = some 5) (A : Option Addr) (n c m : Nat) (k : IntKind) (hm : m ≤ n) (hc : n ≤ c) :
    (Instr.sliceAt T (.slice A n c) (some (.int k (m : Int))) none none).run P w = .ok (.slice (offN A c m) (n - m) (c - m)) w := by
  obtain ⟨i0, h0, h1⟩ := Option.map_eq_some_iff.1 hE
  have h2 : (m : Int) ≤ (n : Int) := by omega
  unfold offN
  cases A with
  | none => simp [Instr.sliceAt, Instr.slice, Instr.sliceBounds, Instr.sliceBound, run_underlying hT, sizeOf, typeInfo, h0, h1, asIntOf, hm]
  | some ad => simp [Instr.sliceAt, Instr.slice, Instr.sliceBounds, Instr.sliceBound, run_underlying hT, sizeOf, typeInfo, h0, h1, asIntOf, hm]
theorem nodeSize : (Try.prog.info? 34).map (·.size) = some 5 := by kernel_rfl
theorem wpList_sliceLo {P : Program} {E : TypeId} {w : World} {ops : Array Oper} {rest : List Oper} {o : Oper} {a : Act} {Q : Exit → Act → World → Prop} (hgd : o.guard = none) (s y : Operand) (T : TypeId) (ho : o.op = .slice T s (some y) none none)
    (hT : P.underlying T = some (.slice E)) (hE : (P.info? E).map (·.size) = some 5) (A : Option Addr) (n c m : Nat) (hs : a.eval s = .slice A n c) (hy : a.eval y = .int .i64 (m : Int)) (hm : m ≤ n) (hc : n ≤ c)
    (h : wpList P ops Q rest (a.put o.dst (.slice (offN A c m) (n - m) (c - m))) w) : wpList P ops Q (o :: rest) a w :=
  wpList_wanted (by simp [Region.wanted, hgd]) fun _ hK => by
    unfold Oper.wp execOp
    simp only [ho, Option.map_some, Option.map_none, hs, hy]
    rw [Sem.run_bind, run_slice_lo hT hE A n c m _ hm hc]
    exact hK _ _ h
theorem wpList_isSlice {P : Program} {w : World} {ops : Array Oper} {rest : List Oper} {o : Oper} {a : Act} {Q : Exit → Act → World → Prop} (T : TypeId) (s y : Operand) (ho : o.op = .slice T s (some y) none none) (h : wpList P ops Q (o :: rest) a w) : wpList P ops Q (o :: rest) a w := h
theorem empty_own (w : World) (base : Nat) (hb : base ≤ w.heap.size) : OR 34 5 (w.alloc (.cells #[] 34)) base (.slice (some ⟨w.heap.size, 0, none⟩) 0 0) 0 [] :=
  ⟨rfl, .inr ⟨w.heap.size, 0, #[], rfl, hb, Blk.new w _ _, Nat.le_refl _, by unfold maxLen; omega, by simp, by simp⟩⟩
theorem while_at {α : Type} (q : α → Bool) (l : List α) (k : Nat) (hk : k ≤ l.length) (h1 : ∀ x ∈ l.take k, q x = true) (h2 : ∀ h : k < l.length, q l[k] = false) : l.takeWhile q = l.take k ∧ l.dropWhile q = l.drop k := by
  obtain ⟨a, b, hab⟩ : ∃ a b, (a = l.take k ∧ b = l.drop k) := ⟨_, _, rfl, rfl⟩
  have e : l = a ++ b := by rw [hab.1, hab.2, List.take_append_drop]
  rw [← hab.1, ← hab.2]
  have hb : b.takeWhile q = [] ∧ b.dropWhile q = b := by
    by_cases h : k < l.length
    · have : b = l[k] :: l.drop (k + 1) := by rw [hab.2]; exact List.drop_eq_getElem_cons h
      rw [this, List.takeWhile_cons, List.dropWhile_cons, h2 h]
      exact ⟨rfl, rfl⟩
    · have : b = [] := by rw [hab.2]; exact List.drop_of_length_le (by omega)
      rw [this]
      exact ⟨rfl, rfl⟩
  have ha : ∀ x ∈ a, q x = true := by rw [hab.1]; exact h1
  clear hab h1 h2
  subst e
  exact ⟨by rw [List.takeWhile_append_of_pos ha, hb.1, List.append_nil], by rw [List.dropWhile_append_of_pos ha, hb.2]⟩
theorem insert_at {l : List Nd} {n : Nd} {k : Nat} (hk : k ≤ l.length) (h1 : ∀ x ∈ l.take k, cmp x.p n.p ≤ 0) (h2 : ∀ h : k < l.length, ¬ cmp l[k].p n.p ≤ 0) : insert l n = l.take k ++ n :: l.drop k := by
  unfold insert
  obtain ⟨e1, e2⟩ := while_at (fun x : Nd => decide (cmp x.p n.p ≤ 0)) l k hk (fun x hx => by simpa using h1 x hx) (fun h => by simpa using h2 h)
  rw [e1, e2]
/-- An own slice of nodes, as an answer. -/
def OutN (w : World) (l : List Nd) : Ending → World → Prop := fun e w' => ∃ A c, e = .returned (.slice A l.length c) ∧ ON w' w.heap.size (.slice A l.length c) l ∧ Gr w w'
abbrev ndC (n : Nd) : Array Value := #[str n.p, .int .i64 n.kind, .int .i64 n.mode, .int .i64 n.time, str n.data]
set_option maxRecDepth 100000 in
set_option maxHeartbeats 8000000 in
theorem refInsert_any (A : Option Addr) (c : Nat) (l : List Nd) (n : Nd) (w : World) (h : NR w w.heap.size A l) (hc : l.length ≤ c) (hl : l.length ≤ 1000000) (hx : ∀ x ∈ l, x.p.length ≤ 90000) (hn : n.p.length ≤ 90000) :
    Calls Try.prog 20 #[.slice A l.length c, nV n] w (OutN w (insert l n)) := by
  obtain ⟨L, hL⟩ : ∃ L, insert l n = L := ⟨_, rfl⟩
  rw [hL]
  replace hL := Lib.hid hL
  have bx := Blk.new w 34 (ndC n)
  have g0 := (Gr.refl w).alloc (.cells (ndC n) 34)
  have h0 := Lib.hid (h.below g0)
  replace bx := Lib.hid bx
  replace g0 := Lib.hid g0
  clear h
  go_enter Try.func20, Try.ntmps20
  go_wp2
  go_loopw [5] (fun v5 wr => ∃ k : Nat, k ≤ l.length ∧ v5 = .int .i64 (k : Int) ∧ Hid ((∀ x ∈ l.take k, cmp x.p n.p ≤ 0) ∧ NR wr w.heap.size A l ∧ Blk wr w.heap.size 34 (ndC n) ∧ Gr w wr)) (fun v5 _ => l.length - (intOf v5).toNat)
  case atStart => exact ⟨0, by omega, rfl, Lib.hid ⟨by simp, h0.out, bx.out, g0.out⟩⟩
  case round =>
    clear h0 bx g0
    obtain ⟨k, hk, rfl, hst⟩ := hrel
    obtain ⟨hq, h, bx, gg⟩ := hst.out
    clear hst
    have hws := bx.lt
    by_cases hkl : k < l.length
    · have ij : (k : Int) < (l.length : Int) := by omega
      have kw : IntKind.i64.wrap ((k : Int) + 1) = (k : Int) + 1 := IntWalk.i64_in _ (by omega)
      obtain ⟨ad, rfl, hlt, e0, _, _, _, _⟩ := h.at_ hkl
      have hxk := hx _ (List.getElem_mem hkl)
      have hbl : (ad.add (k * 5)).block < wr.heap.size := by rw [block_of_add]; omega
      have hnx : cmp l[k].p n.p ≤ 0 → ∀ x ∈ l.take (k + 1), cmp x.p n.p ≤ 0 := fun e x hx => by
        rw [List.take_succ_eq_append_getElem hkl] at hx
        rcases List.mem_append.1 hx with hx | hx
        · exact hq x hx
        · obtain rfl : x = l[k] := by simpa using hx
          exact e
      have hst : ¬ cmp l[k].p n.p ≤ 0 → L = l.take k ++ n :: l.drop k := fun e => by rw [← hL.out]; exact insert_at hk hq (fun _ => e)
      generalize l[k].p = s at *
      have hcm := Lib.hid (fun w => refCmp_any s n.p w (by omega) (by omega))
      obtain ⟨z, hz⟩ : ∃ z, cmp s n.p = z := ⟨_, rfl⟩
      rw [hz] at hcm hnx hst
      replace hnx := Lib.hid hnx
      replace hst := Lib.hid hst
      replace gg := Lib.hid gg
      replace bx := Lib.hid bx
      replace h := Lib.hid h
      clear hz hq hlt
      by_cases hz0 : z ≤ 0
      · have zt : decide (z ≤ 0) = true := by simpa using hz0
        go_wp2
        refine region_grow rfl (by kernel_rfl) ?_
        refine GW.mv rfl trivial (.inl rfl) (kn0 (t := 5) (c := .int .i64 (k : Int)) (by kernel_rfl) rfl) (eqv_lasts _) ?_
        refine GW.mv rfl trivial (.inl rfl) (kn0 (t := 0) (c := .slice (some ad) l.length c) (by kernel_rfl) rfl) (eqv_lasts _) ?_
        refine GW.lenV rfl trivial rfl Try.underlying22 (kn (t := 8) (j := 1) (by kernel_rfl)) ?_
        refine GW.bin (.bool true) rfl trivial rfl (kn (t := 7) (j := 0) (by kernel_rfl)) (kn (t := 9) (j := 2) (by kernel_rfl)) (fun w' => by simp [go_sem] <;> omega) ?_
        refine GW.mv rfl trivial (.inl rfl) (kn (t := 10) (j := 3) (by kernel_rfl)) (eqv_lasts _) ?_
        refine GW.mv rfl ⟨11, by kernel_rfl, by kernel_rfl, fun _ _ h => h⟩ (.inl rfl) (kn0 (t := 0) (c := .slice (some ad) l.length c) (by kernel_rfl) rfl) (eqv_lasts _) ?_
        refine GW.mv rfl ⟨11, by kernel_rfl, by kernel_rfl, fun _ _ h => h⟩ (.inl rfl) (kn0 (t := 5) (c := .int .i64 (k : Int)) (by kernel_rfl) rfl) (eqv_lasts _) ?_
        refine GW.p2 (.pointer (some (ad.add (k * 5)))) rfl ⟨11, by kernel_rfl, by kernel_rfl, fun _ _ h => h⟩ (kn (t := 12) (j := 5) (by kernel_rfl)) (kn (t := 13) (j := 6) (by kernel_rfl)) (fun ρ w' h1 h2 hg => by show ((Instr.indexAt 22 (ρ (.tmp 12)) (ρ (.tmp 13)) >>= fun v => pure (Next.value v)) : Sem Next).run Try.prog w' = _; rw [h1, h2, Sem.run_bind, run_idxR w' Try.underlying22 (size := 5) (by kernel_rfl) ad _ _ k hkl]; simp) ?_
        refine GW.p1 (.pointer (some (ad.add (k * 5)))) rfl ⟨11, by kernel_rfl, by kernel_rfl, fun _ _ h => h⟩ (kn (t := 14) (j := 7) (by kernel_rfl)) (fun ρ w' hρ hg => by simp [execOp, hρ, go_sem]) ?_
        refine GW.p1 (str s) rfl ⟨11, by kernel_rfl, by kernel_rfl, fun _ _ h => h⟩ (kn (t := 15) (j := 8) (by kernel_rfl)) (fun ρ w' hρ hg => by simp [execOp, hρ, go_sem, (hg.cell (p := (ad.add (k * 5))) hbl).trans e0]) ?_
        refine GW.p1 (.pointer (some ⟨w.heap.size, 0, none⟩)) rfl ⟨11, by kernel_rfl, by kernel_rfl, fun _ _ h => h⟩ (kn0 (t := 3) (c := .pointer (some ⟨w.heap.size, 0, none⟩)) (by kernel_rfl) rfl) (fun ρ w' hρ hg => by simp [execOp, hρ, go_sem]) ?_
        refine GW.p1 (str n.p) rfl ⟨11, by kernel_rfl, by kernel_rfl, fun _ _ h => h⟩ (kn (t := 17) (j := 10) (by kernel_rfl)) (fun ρ w' hρ hg => by simp [execOp, hρ, go_sem, (hg.cell (p := ⟨w.heap.size, 0, none⟩) bx.out.lt).trans (bx.out.cell 0)]) ?_
        refine GW.call2 (eqv (.int .i64 z)) rfl ⟨11, by kernel_rfl, by kernel_rfl, fun _ _ h => h⟩ rfl Try.func37 (by kernel_rfl) (by kernel_rfl) (eqv_lasts _) (kn (t := 16) (j := 9) (by kernel_rfl)) (kn (t := 18) (j := 11) (by kernel_rfl)) (fun v u w' hg hv hu => ?_) ?_
        · obtain rfl : v = _ := hv
          obtain rfl : u = _ := hu
          refine (hcm.out w').mono ?_
          rintro e w9 ⟨rfl, hg9⟩
          exact ⟨_, rfl, rfl, hg9⟩
        refine GW.bin (.bool true) rfl ⟨11, by kernel_rfl, by kernel_rfl, fun _ _ h => h⟩ rfl (kn (t := 19) (j := 12) (by kernel_rfl)) knc (fun w' => by simp [go_sem, zt]) ?_
        refine GW.pick (b := true) rfl trivial rfl (kn (t := 11) (j := 4) (by kernel_rfl)) (kn (t := 20) (j := 13) (by kernel_rfl)) (eqv_lasts _) ?_
        refine GW.done (by simp) (by kernel_rfl) (fun w' hg => ?_)
        rintro v0 - v1 - v2 - v3 - v4 - v5 - v6 - v7 - v8 - v9 - v10 - v11 - v12 - v13 - v14 h14
        obtain rfl : v14 = (.bool true) := h14
        simp only [GFin, Act.put, List.setIfInBounds_toArray, List.set_cons_succ, List.set_cons_zero]
        have b9 := blk_more bx.out hg
        have h9 := h.out.below (hg.mono (Nat.le_of_lt hws))
        have g9 := Gr.trans gg.out hg
        have q9 := hnx.out hz0
        replace b9 := Lib.hid (show _ ∧ _ ∧ _ ∧ _ from ⟨q9, h9, b9, g9⟩)
        clear hg h bx gg hnx hst h9 g9 q9 hcm
        go_wp2
        exact ⟨⟨k + 1, by omega, by go_num, Lib.hid b9.out⟩, by simp [intOf]; omega⟩
      · have zt : decide (z ≤ 0) = false := by simpa using hz0
        go_wp2
        refine region_grow rfl (by kernel_rfl) ?_
        refine GW.mv rfl trivial (.inl rfl) (kn0 (t := 5) (c := .int .i64 (k : Int)) (by kernel_rfl) rfl) (eqv_lasts _) ?_
        refine GW.mv rfl trivial (.inl rfl) (kn0 (t := 0) (c := .slice (some ad) l.length c) (by kernel_rfl) rfl) (eqv_lasts _) ?_
        refine GW.lenV rfl trivial rfl Try.underlying22 (kn (t := 8) (j := 1) (by kernel_rfl)) ?_
        refine GW.bin (.bool true) rfl trivial rfl (kn (t := 7) (j := 0) (by kernel_rfl)) (kn (t := 9) (j := 2) (by kernel_rfl)) (fun w' => by simp [go_sem] <;> omega) ?_
        refine GW.mv rfl trivial (.inl rfl) (kn (t := 10) (j := 3) (by kernel_rfl)) (eqv_lasts _) ?_
        refine GW.mv rfl ⟨11, by kernel_rfl, by kernel_rfl, fun _ _ h => h⟩ (.inl rfl) (kn0 (t := 0) (c := .slice (some ad) l.length c) (by kernel_rfl) rfl) (eqv_lasts _) ?_
        refine GW.mv rfl ⟨11, by kernel_rfl, by kernel_rfl, fun _ _ h => h⟩ (.inl rfl) (kn0 (t := 5) (c := .int .i64 (k : Int)) (by kernel_rfl) rfl) (eqv_lasts _) ?_
        refine GW.p2 (.pointer (some (ad.add (k * 5)))) rfl ⟨11, by kernel_rfl, by kernel_rfl, fun _ _ h => h⟩ (kn (t := 12) (j := 5) (by kernel_rfl)) (kn (t := 13) (j := 6) (by kernel_rfl)) (fun ρ w' h1 h2 hg => by show ((Instr.indexAt 22 (ρ (.tmp 12)) (ρ (.tmp 13)) >>= fun v => pure (Next.value v)) : Sem Next).run Try.prog w' = _; rw [h1, h2, Sem.run_bind, run_idxR w' Try.underlying22 (size := 5) (by kernel_rfl) ad _ _ k hkl]; simp) ?_
        refine GW.p1 (.pointer (some (ad.add (k * 5)))) rfl ⟨11, by kernel_rfl, by kernel_rfl, fun _ _ h => h⟩ (kn (t := 14) (j := 7) (by kernel_rfl)) (fun ρ w' hρ hg => by simp [execOp, hρ, go_sem]) ?_
        refine GW.p1 (str s) rfl ⟨11, by kernel_rfl, by kernel_rfl, fun _ _ h => h⟩ (kn (t := 15) (j := 8) (by kernel_rfl)) (fun ρ w' hρ hg => by simp [execOp, hρ, go_sem, (hg.cell (p := (ad.add (k * 5))) hbl).trans e0]) ?_
        refine GW.p1 (.pointer (some ⟨w.heap.size, 0, none⟩)) rfl ⟨11, by kernel_rfl, by kernel_rfl, fun _ _ h => h⟩ (kn0 (t := 3) (c := .pointer (some ⟨w.heap.size, 0, none⟩)) (by kernel_rfl) rfl) (fun ρ w' hρ hg => by simp [execOp, hρ, go_sem]) ?_
        refine GW.p1 (str n.p) rfl ⟨11, by kernel_rfl, by kernel_rfl, fun _ _ h => h⟩ (kn (t := 17) (j := 10) (by kernel_rfl)) (fun ρ w' hρ hg => by simp [execOp, hρ, go_sem, (hg.cell (p := ⟨w.heap.size, 0, none⟩) bx.out.lt).trans (bx.out.cell 0)]) ?_
        refine GW.call2 (eqv (.int .i64 z)) rfl ⟨11, by kernel_rfl, by kernel_rfl, fun _ _ h => h⟩ rfl Try.func37 (by kernel_rfl) (by kernel_rfl) (eqv_lasts _) (kn (t := 16) (j := 9) (by kernel_rfl)) (kn (t := 18) (j := 11) (by kernel_rfl)) (fun v u w' hg hv hu => ?_) ?_
        · obtain rfl : v = _ := hv
          obtain rfl : u = _ := hu
          refine (hcm.out w').mono ?_
          rintro e w9 ⟨rfl, hg9⟩
          exact ⟨_, rfl, rfl, hg9⟩
        refine GW.bin (.bool false) rfl ⟨11, by kernel_rfl, by kernel_rfl, fun _ _ h => h⟩ rfl (kn (t := 19) (j := 12) (by kernel_rfl)) knc (fun w' => by simp [go_sem, zt]) ?_
        refine GW.pick (b := true) rfl trivial rfl (kn (t := 11) (j := 4) (by kernel_rfl)) (kn (t := 20) (j := 13) (by kernel_rfl)) (eqv_lasts _) ?_
        refine GW.done (by simp) (by kernel_rfl) (fun w' hg => ?_)
        rintro v0 - v1 - v2 - v3 - v4 - v5 - v6 - v7 - v8 - v9 - v10 - v11 - v12 - v13 - v14 h14
        obtain rfl : v14 = (.bool false) := h14
        simp only [GFin, Act.put, List.setIfInBounds_toArray, List.set_cons_succ, List.set_cons_zero]
        have hLe := hst.out hz0
        have bx9 := blk_more bx.out hg
        have h9 := h.out.below (hg.mono (Nat.le_of_lt hws))
        have g9 := Gr.trans gg.out hg
        have s9 := bx9.lt
        have gE := (Gr.refl w').alloc (.cells #[] 34)
        have oE := Lib.hid (empty_own w' w.heap.size (Nat.le_of_lt s9))
        have hrT := Lib.hid ((h9.below (gE.mono (Nat.le_of_lt s9))).take_ hk)
        have bE := Lib.hid (bx9.alloc (.cells #[] 34))
        have hE := Lib.hid (h9.below (gE.mono (Nat.le_of_lt s9)))
        have gE2 := Lib.hid (Gr.trans g9 gE)
        have k2 : (k : Int) ≤ (c : Int) := by omega
        have hkm : k ≤ 1000000 := by omega
        replace hL := Lib.hid hLe
        clear hg h bx gg hLe bx9 h9 g9 gE
        try clear hnx hst hcm zt hz0 ij kw e0 hbl hxk
        go_wp2_with (first
          | ((with_reducible refine wpList_isApp (.tmp 24) (.tmp 27) 22 rfl ?_); refine wpList_append_empty (g := w'.heap.size) (base := w.heap.size) rfl (.tmp 24) (.tmp 27) 22 rfl Try.underlying22 nodeRow rfl (by exact oE.out) w.heap.size (some ad) k c (ncs (l.take k)) rfl (by exact hrT.out) (ncs_one_cell _) (by unfold maxLen; omega) (by omega) (by rw [World.size_alloc]; omega) ?_; intro A1 c1 w1 o1 b1; replace bE := blk_more bE.out b1; have f0 := bE.cell 0; have f1 := bE.cell 1; have f2 := bE.cell 2; have f3 := bE.cell 3; have f4 := bE.cell 4; have s1 := bE.lt; clear bE; have sW := Nat.le_trans (Below.size gE2.out) (Below.size b1); replace hE := Lib.hid (hE.out.below (b1.mono (by rw [World.size_alloc]; omega))); replace gE2 := Lib.hid (Gr.trans gE2.out b1); replace o1 := Lib.hid (World.ownsRow.alloc o1 (.cells (ndC n) 34)); have n1 := Lib.hid (NR.new1 w1 34 n); clear oE hrT b1)
          | ((with_reducible refine wpList_isApp (.tmp 29) (.tmp 31) 22 rfl ?_); refine wpList_append_rowsN (base := w.heap.size) (v := .slice A1 k c1) rfl (.tmp 29) (.tmp 31) 22 rfl Try.underlying22 nodeRow rfl (by exact o1.out) (w1.heap.size + 1) (some ⟨w1.heap.size, 0, none⟩) 1 1 (ncs [n]) rfl (by exact n1.out) (ncs_one_cell _) (by unfold maxLen; omega) (by omega) (by rw [World.size_alloc]; omega) (ncs (l.take k ++ [n])) (ncs_append _ _) (k + 1) rfl ?_; intro A2 c2 w2 o2 b2; clear f0 f1 f2 f3 f4; have gX := (Gr.refl w1).alloc (.cells (ndC n) 34); have bX := Below.trans (gX.mono sW) b2; replace hE := Lib.hid (hE.out.below bX); have gF := Lib.hid (Below.trans gE2.out bX); replace o2 := Lib.hid o2; clear o1 n1 b2 gX bX gE2)
          | ((with_reducible refine wpList_isSlice 22 (.tmp 34) (.tmp 35) rfl ?_); refine wpList_sliceLo rfl (.tmp 34) (.tmp 35) 22 rfl Try.underlying22 nodeSize (some ad) l.length c k rfl rfl hk hc ?_)
          | ((with_reducible refine wpList_isApp (.tmp 33) (.tmp 36) 22 rfl ?_); refine wpList_append_rowsN (base := w.heap.size) (v := .slice A2 (k + 1) c2) rfl (.tmp 33) (.tmp 36) 22 rfl Try.underlying22 nodeRow rfl (by exact o2.out) w.heap.size (offN (some ad) c k) (l.length - k) (c - k) (ncs (l.drop k)) rfl (by exact hE.out.drop_ hk hc) (ncs_one_cell _) (by unfold maxLen; omega) (by omega) (Below.size gF.out) (ncs ((l.take k ++ [n]) ++ l.drop k)) (ncs_append _ _) (k + 1 + (l.length - k)) rfl ?_; intro A3 c3 w3 o3 b3; have gG := Lib.hid (Below.trans gF.out b3); replace o3 := Lib.hid o3; clear o2 hE gF b3))
        go_ret
        have hLe := hL.out
        rw [show l.take k ++ n :: l.drop k = (l.take k ++ [n]) ++ l.drop k by rw [List.append_assoc]; rfl] at hLe
        have hll : L.length = k + 1 + (l.length - k) := by rw [hLe, List.length_append, List.length_append, List.length_take, List.length_drop, Nat.min_eq_left hk]; rfl
        refine ⟨A3, c3, by rw [hll]; rfl, ?_, gG.out⟩
        unfold ON
        rw [hll, hLe]
        exact o3.out
    · have hLe : L = l.take k ++ n :: l.drop k := by rw [← hL.out]; exact insert_at hk hq (fun e => absurd e hkl)
      have kk : ¬ (k : Int) < (l.length : Int) := by omega
      replace gg := Lib.hid gg
      replace bx := Lib.hid bx
      replace h := Lib.hid h
      clear hq
      go_wp2
      refine region_grow rfl (by kernel_rfl) ?_
      refine GW.mv rfl trivial (.inl rfl) (kn0 (t := 5) (c := .int .i64 (k : Int)) (by kernel_rfl) rfl) (eqv_lasts _) ?_
      refine GW.mv rfl trivial (.inl rfl) (kn0 (t := 0) (c := .slice A l.length c) (by kernel_rfl) rfl) (eqv_lasts _) ?_
      refine GW.lenV rfl trivial rfl Try.underlying22 (kn (t := 8) (j := 1) (by kernel_rfl)) ?_
      refine GW.bin (.bool false) rfl trivial rfl (kn (t := 7) (j := 0) (by kernel_rfl)) (kn (t := 9) (j := 2) (by kernel_rfl)) (fun w' => by simp [go_sem] <;> omega) ?_
      refine GW.mv rfl trivial (.inl rfl) (kn (t := 10) (j := 3) (by kernel_rfl)) (eqv_lasts _) ?_
      refine GW.skip rfl rfl (d := 11) (by kernel_rfl) (by kernel_rfl) (fun _ _ h => .inl h) ?_
      refine GW.skip rfl rfl (d := 11) (by kernel_rfl) (by kernel_rfl) (fun _ _ h => .inl h) ?_
      refine GW.skip rfl rfl (d := 11) (by kernel_rfl) (by kernel_rfl) (fun _ _ h => .inl h) ?_
      refine GW.skip rfl rfl (d := 11) (by kernel_rfl) (by kernel_rfl) (fun _ _ h => .inl h) ?_
      refine GW.skip rfl rfl (d := 11) (by kernel_rfl) (by kernel_rfl) (fun _ _ h => .inl h) ?_
      refine GW.skip rfl rfl (d := 11) (by kernel_rfl) (by kernel_rfl) (fun _ _ h => .inl h) ?_
      refine GW.skip rfl rfl (d := 11) (by kernel_rfl) (by kernel_rfl) (fun _ _ h => .inl h) ?_
      refine GW.skip rfl rfl (d := 11) (by kernel_rfl) (by kernel_rfl) (fun _ _ h => .inl h) ?_
      refine GW.skip rfl rfl (d := 11) (by kernel_rfl) (by kernel_rfl) (fun _ _ h => .inl h) ?_
      refine GW.pick (b := false) rfl trivial rfl (kn (t := 11) (j := 4) (by kernel_rfl)) (knc) (eqv_lasts _) ?_
      refine GW.done (by simp) (by kernel_rfl) (fun w' hg => ?_)
      rintro v0 - v1 - v2 - v3 - v4 - v5 - v6 - v7 - v8 - v9 - v10 - v11 - v12 - v13 - v14 h14
      obtain rfl : v14 = (Value.bool false) := h14
      simp only [GFin, Act.put, List.setIfInBounds_toArray, List.set_cons_succ, List.set_cons_zero]
      have bx9 := blk_more bx.out hg
      have h9 := h.out.below (hg.mono (Nat.le_of_lt hws))
      have g9 := Gr.trans gg.out hg
      have s9 := bx9.lt
      have gE := (Gr.refl w').alloc (.cells #[] 34)
      have oE := Lib.hid (empty_own w' w.heap.size (Nat.le_of_lt s9))
      have hrT := Lib.hid ((h9.below (gE.mono (Nat.le_of_lt s9))).take_ hk)
      have bE := Lib.hid (bx9.alloc (.cells #[] 34))
      have hE := Lib.hid (h9.below (gE.mono (Nat.le_of_lt s9)))
      have gE2 := Lib.hid (Gr.trans g9 gE)
      have k2 : (k : Int) ≤ (c : Int) := by omega
      have hkm : k ≤ 1000000 := by omega
      replace hL := Lib.hid hLe
      clear hg h bx gg hLe bx9 h9 g9 gE
      try clear hnx hst hcm zt hz0 ij kw e0 hbl hxk
      go_wp2_with (first
        | ((with_reducible refine wpList_isApp (.tmp 24) (.tmp 27) 22 rfl ?_); refine wpList_append_empty (g := w'.heap.size) (base := w.heap.size) rfl (.tmp 24) (.tmp 27) 22 rfl Try.underlying22 nodeRow rfl (by exact oE.out) w.heap.size A k c (ncs (l.take k)) rfl (by exact hrT.out) (ncs_one_cell _) (by unfold maxLen; omega) (by omega) (by rw [World.size_alloc]; omega) ?_; intro A1 c1 w1 o1 b1; replace bE := blk_more bE.out b1; have f0 := bE.cell 0; have f1 := bE.cell 1; have f2 := bE.cell 2; have f3 := bE.cell 3; have f4 := bE.cell 4; have s1 := bE.lt; clear bE; have sW := Nat.le_trans (Below.size gE2.out) (Below.size b1); replace hE := Lib.hid (hE.out.below (b1.mono (by rw [World.size_alloc]; omega))); replace gE2 := Lib.hid (Gr.trans gE2.out b1); replace o1 := Lib.hid (World.ownsRow.alloc o1 (.cells (ndC n) 34)); have n1 := Lib.hid (NR.new1 w1 34 n); clear oE hrT b1)
        | ((with_reducible refine wpList_isApp (.tmp 29) (.tmp 31) 22 rfl ?_); refine wpList_append_rowsN (base := w.heap.size) (v := .slice A1 k c1) rfl (.tmp 29) (.tmp 31) 22 rfl Try.underlying22 nodeRow rfl (by exact o1.out) (w1.heap.size + 1) (some ⟨w1.heap.size, 0, none⟩) 1 1 (ncs [n]) rfl (by exact n1.out) (ncs_one_cell _) (by unfold maxLen; omega) (by omega) (by rw [World.size_alloc]; omega) (ncs (l.take k ++ [n])) (ncs_append _ _) (k + 1) rfl ?_; intro A2 c2 w2 o2 b2; clear f0 f1 f2 f3 f4; have gX := (Gr.refl w1).alloc (.cells (ndC n) 34); have bX := Below.trans (gX.mono sW) b2; replace hE := Lib.hid (hE.out.below bX); have gF := Lib.hid (Below.trans gE2.out bX); replace o2 := Lib.hid o2; clear o1 n1 b2 gX bX gE2)
        | ((with_reducible refine wpList_isSlice 22 (.tmp 34) (.tmp 35) rfl ?_); refine wpList_sliceLo rfl (.tmp 34) (.tmp 35) 22 rfl Try.underlying22 nodeSize A l.length c k rfl rfl hk hc ?_)
        | ((with_reducible refine wpList_isApp (.tmp 33) (.tmp 36) 22 rfl ?_); refine wpList_append_rowsN (base := w.heap.size) (v := .slice A2 (k + 1) c2) rfl (.tmp 33) (.tmp 36) 22 rfl Try.underlying22 nodeRow rfl (by exact o2.out) w.heap.size (offN A c k) (l.length - k) (c - k) (ncs (l.drop k)) rfl (by exact hE.out.drop_ hk hc) (ncs_one_cell _) (by unfold maxLen; omega) (by omega) (Below.size gF.out) (ncs ((l.take k ++ [n]) ++ l.drop k)) (ncs_append _ _) (k + 1 + (l.length - k)) rfl ?_; intro A3 c3 w3 o3 b3; have gG := Lib.hid (Below.trans gF.out b3); replace o3 := Lib.hid o3; clear o2 hE gF b3))
      go_ret
      have hLe := hL.out
      rw [show l.take k ++ n :: l.drop k = (l.take k ++ [n]) ++ l.drop k by rw [List.append_assoc]; rfl] at hLe
      have hll : L.length = k + 1 + (l.length - k) := by rw [hLe, List.length_append, List.length_append, List.length_take, List.length_drop, Nat.min_eq_left hk]; rfl
      refine ⟨A3, c3, by rw [hll]; rfl, ?_, gG.out⟩
      unfold ON
      rw [hll, hLe]
      exact o3.out
end Tr
end Go.Proofs.Yteadcblmomngpaa
namespace Go.Proofs.Yteadcblmomngpaa
open Go Go.RowKit Go.Shelf W Pth
namespace Tr
theorem nodeC_2 {n : Nd} (h : n.p = [] ∨ right n.p = false) : nodeC n = 2 := if_pos h
theorem nodeC_8 {n : Nd} (h : ¬ (n.p = [] ∨ right n.p = false)) (h2 : n.kind < 1 ∨ 3 < n.kind) : nodeC n = 8 := (if_neg h).trans (if_pos h2)
theorem nodeC_5 {n : Nd} (h : ¬ (n.p = [] ∨ right n.p = false)) (h2 : ¬ (n.kind < 1 ∨ 3 < n.kind)) (h3 : (n.kind = 1 ∧ 0 < n.data.length) ∨ (n.kind = 2 ∧ 16384 < n.data.length) ∨ (n.kind = 3 ∧ 64 < n.data.length)) : nodeC n = 5 :=
  (if_neg h).trans ((if_neg h2).trans (if_pos h3))
theorem nodeC_1 {n : Nd} (h : ¬ (n.p = [] ∨ right n.p = false)) (h2 : ¬ (n.kind < 1 ∨ 3 < n.kind)) (h3 : ¬ ((n.kind = 1 ∧ 0 < n.data.length) ∨ (n.kind = 2 ∧ 16384 < n.data.length) ∨ (n.kind = 3 ∧ 64 < n.data.length)))
    (h4 : n.mode < 0 ∨ 4095 < n.mode ∨ n.time < 0 ∨ 1099511627776 < n.time ∨ (n.kind = 3 ∧ (n.mode ≠ 0 ∨ target n.data = false))) : nodeC n = 1 :=
  (if_neg h).trans ((if_neg h2).trans ((if_neg h3).trans (if_pos h4)))
theorem nodeC_0 {n : Nd} (h : ¬ (n.p = [] ∨ right n.p = false)) (h2 : ¬ (n.kind < 1 ∨ 3 < n.kind)) (h3 : ¬ ((n.kind = 1 ∧ 0 < n.data.length) ∨ (n.kind = 2 ∧ 16384 < n.data.length) ∨ (n.kind = 3 ∧ 64 < n.data.length)))
    (h4 : ¬ (n.mode < 0 ∨ 4095 < n.mode ∨ n.time < 0 ∨ 1099511627776 < n.time ∨ (n.kind = 3 ∧ (n.mode ≠ 0 ∨ target n.data = false)))) : nodeC n = 0 :=
  (if_neg h).trans ((if_neg h2).trans ((if_neg h3).trans (if_neg h4)))
def okc (c : UInt8) : Bool := decide (33 ≤ c.toNat ∧ c.toNat ≤ 126)
theorem target_bad {l : List UInt8} (h : l.all okc = false) : target l = false := by
  unfold target
  rw [show (fun c : UInt8 => decide (33 ≤ c.toNat ∧ c.toNat ≤ 126)) = okc from rfl, h, Bool.false_and]
theorem target_good {l : List UInt8} (h : l.all okc = true) (h0 : l ≠ []) : target l = true := by
  unfold target
  rw [show (fun c : UInt8 => decide (33 ≤ c.toNat ∧ c.toNat ≤ 126)) = okc from rfl, h, Bool.true_and]
  cases l with
  | nil => exact absurd rfl h0
  | cons a l => rfl
theorem okc_iff (c : UInt8) : okc c = true ↔ (33 ≤ n8 c ∧ n8 c ≤ 126) := by
  have h : n8 c = ((c.toNat : Nat) : Int) := rfl
  unfold okc
  rw [h, decide_eq_true_eq]
  omega
set_option maxRecDepth 100000 in
set_option maxHeartbeats 8000000 in
theorem refCheck_any (n : Nd) (w : World) (hp : n.p.length ≤ 90000) (hd : n.data.length ≤ 1000000) :
    Calls Try.prog 19 #[nV n] w fun e w' => e = .returned (.int .i64 ((nodeC n : Nat) : Int)) ∧ Gr w w' := by
  obtain ⟨p, kind, mode, time, data⟩ := n
  simp only at hp hd
  have hri := Lib.hid (fun w => refRight_any p w (by omega))
  obtain ⟨r, hr⟩ : ∃ r, nodeC ⟨p, kind, mode, time, data⟩ = r := ⟨_, rfl⟩
  rw [hr]
  have bx := Blk.new w 34 #[str p, .int .i64 kind, .int .i64 mode, .int .i64 time, str data]
  have b0 := bx.cell 0
  have b1 := bx.cell 1
  have b2 := bx.cell 2
  have b3 := bx.cell 3
  have b4 := bx.cell 4
  have g0 := Lib.hid ((Gr.refl w).alloc (.cells #[str p, .int .i64 kind, .int .i64 mode, .int .i64 time, str data] 34))
  replace bx := Lib.hid bx
  go_enter Try.func19, Try.ntmps19
  by_cases h0 : p = []
  · have hpb : (p == []) = true := by simpa using h0
    obtain rfl : r = 2 := by rw [← hr]; exact nodeC_2 (.inl h0)
    clear hr h0
    go_wp2
    go_ret
    exact ⟨rfl, g0.out⟩
  · have hpb : (p == []) = false := by simpa using h0
    go_wp2_with fail
    go_at_call 30
    refine (hri.out _).mono ?_
    rintro e w1 ⟨rfl, g1⟩
    have bx1 := blk_more bx.out g1
    replace b0 := bx1.cell 0
    replace b1 := bx1.cell 1
    replace b2 := bx1.cell 2
    replace b3 := bx1.cell 3
    replace b4 := bx1.cell 4
    have gg := Lib.hid (Gr.trans g0.out g1)
    clear g0 g1 hri bx bx1
    cases hb : right p with
    | false =>
      obtain rfl : r = 2 := by rw [← hr]; exact nodeC_2 (.inr hb)
      clear hr
      go_wp2
      go_ret
      exact ⟨rfl, gg.out⟩
    | true =>
      have H1 : ¬ (p = [] ∨ right p = false) := by rintro (h | h); exact h0 h; rw [hb] at h; cases h
      by_cases hk : kind < 1 ∨ 3 < kind
      · obtain rfl : r = 8 := by rw [← hr]; exact nodeC_8 H1 hk
        have e1 : (kind == 1) = false := by simp; omega
        have e2 : (kind == 2) = false := by simp; omega
        have e3 : (kind == 3) = false := by simp; omega
        have n1 : (kind != 1) = true := by rw [bne, e1]; rfl
        have n2 : (kind != 2) = true := by rw [bne, e2]; rfl
        have n3 : (kind != 3) = true := by rw [bne, e3]; rfl
        clear hr hk H1 h0 hb hpb e1 e2 e3
        go_wp2
        go_ret
        exact ⟨rfl, gg.out⟩
      · have hk3 : kind = 1 ∨ kind = 2 ∨ kind = 3 := by omega
        clear hb hpb h0
        rcases hk3 with rfl | rfl | rfl
        · by_cases hl : 0 < data.length
          · have hdn : ¬ data = [] := fun e => by rw [e] at hl; cases hl
            have i1 : (0 : Int) < (data.length : Int) := by omega
            obtain rfl : r = 5 := by rw [← hr]; exact nodeC_5 H1 hk (.inl ⟨rfl, hl⟩)
            clear hr H1 hk
            go_wp2
            go_ret
            exact ⟨rfl, gg.out⟩
          · have i1 : ¬ (0 : Int) < (data.length : Int) := by omega
            have H3 : ¬ (((1 : Int) = 1 ∧ 0 < data.length) ∨ ((1 : Int) = 2 ∧ 16384 < data.length) ∨ ((1 : Int) = 3 ∧ 64 < data.length)) := by omega
            obtain rfl : data = [] := List.eq_nil_of_length_eq_zero (by omega)
            clear i1 hl
            by_cases c4 : mode < 0
            · obtain rfl : r = 1 := by rw [← hr]; exact nodeC_1 H1 hk H3 (by simp only []; omega)
              clear hr H1 H3 hk
              go_wp2
              go_ret
              exact ⟨rfl, gg.out⟩
            · skip
              by_cases c6 : 4095 < mode
              · obtain rfl : r = 1 := by rw [← hr]; exact nodeC_1 H1 hk H3 (by simp only []; omega)
                clear hr H1 H3 hk
                go_wp2
                go_ret
                exact ⟨rfl, gg.out⟩
              · skip
                by_cases c8 : time < 0
                · obtain rfl : r = 1 := by rw [← hr]; exact nodeC_1 H1 hk H3 (by simp only []; omega)
                  clear hr H1 H3 hk
                  go_wp2
                  go_ret
                  exact ⟨rfl, gg.out⟩
                · skip
                  by_cases c10 : 1099511627776 < time
                  · obtain rfl : r = 1 := by rw [← hr]; exact nodeC_1 H1 hk H3 (by simp only []; omega)
                    clear hr H1 H3 hk
                    go_wp2
                    go_ret
                    exact ⟨rfl, gg.out⟩
                  · skip
                    obtain rfl : r = 0 := by rw [← hr]; exact nodeC_0 H1 hk H3 (by simp only []; omega)
                    clear hr H1 H3 hk
                    go_wp2
                    go_ret
                    exact ⟨rfl, gg.out⟩
        · by_cases hl : 16384 < data.length
          · skip
            have i1 : (16384 : Int) < (data.length : Int) := by omega
            obtain rfl : r = 5 := by rw [← hr]; exact nodeC_5 H1 hk (.inr (.inl ⟨rfl, hl⟩))
            clear hr H1 hk
            go_wp2
            go_ret
            exact ⟨rfl, gg.out⟩
          · have i1 : ¬ (16384 : Int) < (data.length : Int) := by omega
            have H3 : ¬ (((2 : Int) = 1 ∧ 0 < data.length) ∨ ((2 : Int) = 2 ∧ 16384 < data.length) ∨ ((2 : Int) = 3 ∧ 64 < data.length)) := by omega
            by_cases c4 : mode < 0
            · obtain rfl : r = 1 := by rw [← hr]; exact nodeC_1 H1 hk H3 (by simp only []; omega)
              clear hr H1 H3 hk
              go_wp2
              go_ret
              exact ⟨rfl, gg.out⟩
            · skip
              by_cases c6 : 4095 < mode
              · obtain rfl : r = 1 := by rw [← hr]; exact nodeC_1 H1 hk H3 (by simp only []; omega)
                clear hr H1 H3 hk
                go_wp2
                go_ret
                exact ⟨rfl, gg.out⟩
              · skip
                by_cases c8 : time < 0
                · obtain rfl : r = 1 := by rw [← hr]; exact nodeC_1 H1 hk H3 (by simp only []; omega)
                  clear hr H1 H3 hk
                  go_wp2
                  go_ret
                  exact ⟨rfl, gg.out⟩
                · skip
                  by_cases c10 : 1099511627776 < time
                  · obtain rfl : r = 1 := by rw [← hr]; exact nodeC_1 H1 hk H3 (by simp only []; omega)
                    clear hr H1 H3 hk
                    go_wp2
                    go_ret
                    exact ⟨rfl, gg.out⟩
                  · skip
                    obtain rfl : r = 0 := by rw [← hr]; exact nodeC_0 H1 hk H3 (by simp only []; omega)
                    clear hr H1 H3 hk
                    go_wp2
                    go_ret
                    exact ⟨rfl, gg.out⟩
        · by_cases hl : 64 < data.length
          · skip
            have i1 : (64 : Int) < (data.length : Int) := by omega
            obtain rfl : r = 5 := by rw [← hr]; exact nodeC_5 H1 hk (.inr (.inr ⟨rfl, hl⟩))
            clear hr H1 hk
            go_wp2
            go_ret
            exact ⟨rfl, gg.out⟩
          · have i1 : ¬ (64 : Int) < (data.length : Int) := by omega
            have H3 : ¬ (((3 : Int) = 1 ∧ 0 < data.length) ∨ ((3 : Int) = 2 ∧ 16384 < data.length) ∨ ((3 : Int) = 3 ∧ 64 < data.length)) := by omega
            by_cases c4 : mode < 0
            · obtain rfl : r = 1 := by rw [← hr]; exact nodeC_1 H1 hk H3 (by simp only []; omega)
              clear hr H1 H3 hk
              go_wp2
              go_ret
              exact ⟨rfl, gg.out⟩
            · skip
              by_cases c6 : 4095 < mode
              · obtain rfl : r = 1 := by rw [← hr]; exact nodeC_1 H1 hk H3 (by simp only []; omega)
                clear hr H1 H3 hk
                go_wp2
                go_ret
                exact ⟨rfl, gg.out⟩
              · skip
                by_cases c8 : time < 0
                · obtain rfl : r = 1 := by rw [← hr]; exact nodeC_1 H1 hk H3 (by simp only []; omega)
                  clear hr H1 H3 hk
                  go_wp2
                  go_ret
                  exact ⟨rfl, gg.out⟩
                · skip
                  by_cases c10 : 1099511627776 < time
                  · obtain rfl : r = 1 := by rw [← hr]; exact nodeC_1 H1 hk H3 (by simp only []; omega)
                    clear hr H1 H3 hk
                    go_wp2
                    go_ret
                    exact ⟨rfl, gg.out⟩
                  · skip
                    by_cases z : mode = 0
                    · have zb : (mode != 0) = false := by simpa using z
                      by_cases y : data = []
                      · obtain rfl : r = 1 := by rw [← hr]; exact nodeC_1 H1 hk H3 (.inr (.inr (.inr (.inr ⟨rfl, .inr (by rw [y]; rfl)⟩))))
                        clear hr H1 H3 hk z
                        subst y
                        go_wp2
                        go_ret
                        exact ⟨rfl, gg.out⟩
                      · have ybn : (((data.length : Nat) : Int) == 0) = false := by
                          have : data.length ≠ 0 := fun h => y (List.eq_nil_of_length_eq_zero h)
                          simpa using this
                        have hbad : data.all okc = false → r = 1 := fun h => by rw [← hr]; exact nodeC_1 H1 hk H3 (.inr (.inr (.inr (.inr ⟨rfl, .inr (target_bad h)⟩))))
                        have hgood : data.all okc = true → r = 0 := fun h => by rw [← hr]; exact nodeC_0 H1 hk H3 (by have ht := target_good h y; rintro (h | h | h | h | ⟨-, h | h⟩); all_goals first | (exact absurd z h) | (rw [ht] at h; cases h) | (simp only at *; omega))
                        replace hbad := Lib.hid hbad
                        replace hgood := Lib.hid hgood
                        clear hr H1 H3 hk y
                        go_wp2
                        go_loop [3] (fun v3 => ∃ k : Nat, k ≤ data.length ∧ v3 = .int .i64 (k : Int) ∧ Hid ((data.take k).all okc = true)) (fun v3 => data.length - (intOf v3).toNat)
                        case atStart => exact ⟨0, by omega, rfl, Lib.hid rfl⟩
                        case round =>
                          obtain ⟨k, hkk, rfl, hq⟩ := hrel
                          by_cases hkl : k < data.length
                          · have ij : (k : Int) < (data.length : Int) := by omega
                            have kw : IntKind.i64.wrap ((k : Int) + 1) = (k : Int) + 1 := IntWalk.i64_in _ (by omega)
                            have hsz : k < (⟨data.toArray⟩ : ByteArray).size := by simpa [ByteArray.size] using hkl
                            obtain ⟨c, hc⟩ : ∃ c, (⟨data.toArray⟩ : ByteArray)[k]'hsz = c := ⟨_, rfl⟩
                            have hcl : data[k] = c := hc
                            have hnx : okc c = true → Hid ((data.take (k + 1)).all okc = true) := fun h => Lib.hid (by rw [all_take hkl, hq.out, hcl, h]; rfl)
                            have hbd : okc c = false → r = 1 := fun h => hbad.out (all_bad hkl (by rw [hcl]; exact h))
                            clear hcl
                            cases ho : okc c with
                            | true =>
                              obtain ⟨o1, o2⟩ := (okc_iff c).1 ho
                              have o1' : ¬ n8 c < 33 := by omega
                              have o2' : ¬ 126 < n8 c := by omega
                              have hn2 := hnx ho
                              clear hnx hbd ho o1 o2
                              go_wp2
                              exact ⟨⟨k + 1, by omega, by go_num, hn2⟩, by simp [intOf]; omega⟩
                            | false =>
                              obtain rfl := hbd ho
                              have ho' : ¬ (33 ≤ n8 c ∧ n8 c ≤ 126) := fun h => by rw [(okc_iff c).2 h] at ho; cases ho
                              clear hnx hbd ho
                              by_cases o1 : n8 c < 33
                              · clear ho'
                                go_wp2
                                go_ret
                                exact ⟨rfl, gg.out⟩
                              · have o2 : 126 < n8 c := by omega
                                clear ho'
                                go_wp2
                                go_ret
                                exact ⟨rfl, gg.out⟩
                          · obtain rfl : k = data.length := by omega
                            rw [List.take_length] at hq
                            obtain rfl := hgood.out hq.out
                            clear hq hbad hgood
                            go_wp2
                            go_ret
                            exact ⟨rfl, gg.out⟩
                    · have zb : (mode != 0) = true := by simpa using z
                      obtain rfl : r = 1 := by rw [← hr]; exact nodeC_1 H1 hk H3 (.inr (.inr (.inr (.inr ⟨rfl, .inl z⟩))))
                      clear hr H1 H3 hk z
                      go_wp2
                      go_ret
                      exact ⟨rfl, gg.out⟩
end Tr
end Go.Proofs.Yteadcblmomngpaa
namespace Go.Proofs.Yteadcblmomngpaa
open Go Go.RowKit Go.Shelf W Pth
namespace Tr
/-- Nodes of sizes that are walked. -/
def Fit (l : List Nd) : Prop := l.length ≤ 1000 ∧ ∀ x ∈ l, x.p.length ≤ 90000 ∧ x.data.length ≤ 1000000
def sstep (s : List Nd) (n : Nd) : List Nd := if nodeC n = 0 ∧ at_ s n.p = none then insert s n else s
def tstep (o : List Nd) (n : Nd) : List Nd := if parentC o n.p = 0 ∧ o.length < 512 then o ++ [n] else o
theorem sorted_take (l : List Nd) {k : Nat} (h : k < l.length) : sorted (l.take (k + 1)) = sstep (sorted (l.take k)) l[k] := by
  unfold sorted
  rw [List.take_succ_eq_append_getElem h, List.foldl_append]
  rfl
theorem taken_take (l : List Nd) {k : Nat} (h : k < l.length) : taken (l.take (k + 1)) = tstep (taken (l.take k)) l[k] := by
  unfold taken
  rw [List.take_succ_eq_append_getElem h, List.foldl_append]
  rfl
theorem insert_mem {l : List Nd} {n x : Nd} (h : x ∈ insert l n) : x = n ∨ x ∈ l := by
  unfold insert at h
  rcases List.mem_append.1 h with h | h
  · exact .inr (List.takeWhile_subset _ h)
  · rcases List.mem_cons.1 h with h | h
    · exact .inl h
    · exact .inr ((List.dropWhile_sublist _).subset h)
theorem insert_len (l : List Nd) (n : Nd) : (insert l n).length = l.length + 1 := by
  unfold insert
  have := congrArg List.length (List.takeWhile_append_dropWhile (p := fun x : Nd => decide (cmp x.p n.p ≤ 0)) (l := l))
  rw [List.length_append] at this
  rw [List.length_append, List.length_cons]
  omega
theorem sorted_mem (l : List Nd) : ∀ x ∈ sorted l, x ∈ l := by
  have : ∀ (m : List Nd) (s : List Nd), (∀ x ∈ s, x ∈ l) → (∀ x ∈ m, x ∈ l) → ∀ x ∈ m.foldl sstep s, x ∈ l := by
    intro m
    induction m with
    | nil => intro s h _; exact h
    | cons a m ih =>
      intro s h hm
      refine ih _ ?_ (fun x hx => hm x (by simp [hx]))
      rw [sstep]
      split
      · intro x hx
        rcases insert_mem hx with rfl | hx
        · exact hm _ (by simp)
        · exact h x hx
      · exact h
  exact this l [] (by simp) (fun x h => h)
theorem sorted_len (l : List Nd) : (sorted l).length ≤ l.length := by
  have : ∀ (m s : List Nd), (m.foldl sstep s).length ≤ s.length + m.length := by
    intro m
    induction m with
    | nil => intro s; simp
    | cons a m ih =>
      intro s
      refine Nat.le_trans (ih _) ?_
      rw [sstep]
      split
      · rw [insert_len]; simp; omega
      · rw [List.length_cons]; omega
  have h := this l []
  rw [List.length_nil, Nat.zero_add] at h
  exact h
theorem taken_mem (l : List Nd) : ∀ x ∈ taken l, x ∈ l := by
  have : ∀ (m : List Nd) (s : List Nd), (∀ x ∈ s, x ∈ l) → (∀ x ∈ m, x ∈ l) → ∀ x ∈ m.foldl tstep s, x ∈ l := by
    intro m
    induction m with
    | nil => intro s h _; exact h
    | cons a m ih =>
      intro s h hm
      refine ih _ ?_ (fun x hx => hm x (by simp [hx]))
      rw [tstep]
      split
      · intro x hx
        rcases List.mem_append.1 hx with hx | hx
        · exact h x hx
        · obtain rfl : x = a := by simpa using hx
          exact hm _ (by simp)
      · exact h
  exact this l [] (by simp) (fun x h => h)
theorem taken_len (l : List Nd) : (taken l).length ≤ l.length := by
  have : ∀ (m s : List Nd), (m.foldl tstep s).length ≤ s.length + m.length := by
    intro m
    induction m with
    | nil => intro s; simp
    | cons a m ih =>
      intro s
      refine Nat.le_trans (ih _) ?_
      rw [tstep]
      split
      · rw [List.length_cons, List.length_append, List.length_singleton]; omega
      · rw [List.length_cons]; omega
  have h := this l []
  rw [List.length_nil, Nat.zero_add] at h
  exact h
theorem Fit.of_mem {l s : List Nd} (h : Fit l) (hm : ∀ x ∈ s, x ∈ l) (hl : s.length ≤ l.length) : Fit s := ⟨Nat.le_trans hl h.1, fun x hx => h.2 x (hm x hx)⟩
theorem Fit.sorted_ {l : List Nd} (h : Fit l) (k : Nat) : Fit (sorted (l.take k)) := h.of_mem (fun x hx => List.mem_of_mem_take (sorted_mem _ x hx)) (Nat.le_trans (sorted_len _) (by rw [List.length_take]; omega))
theorem Fit.taken_ {l : List Nd} (h : Fit l) (k : Nat) : Fit (taken (l.take k)) := h.of_mem (fun x hx => List.mem_of_mem_take (taken_mem _ x hx)) (Nat.le_trans (taken_len _) (by rw [List.length_take]; omega))
theorem atI_none {l : List Nd} {p : List UInt8} (h : at_ l p = none) : atI l p < 0 := by unfold atI; rw [h]; decide
theorem atI_some {l : List Nd} {p : List UInt8} (h : ¬ at_ l p = none) : ¬ atI l p < 0 := by
  unfold atI
  cases e : at_ l p with
  | none => exact absurd e h
  | some k => simp only; omega
/-- An own slice of nodes, of blocks from b on. -/
def SN (b : Nat) (wr : World) (v : Value) (l : List Nd) : Prop := ∃ A c, v = .slice A l.length c ∧ ON wr b (.slice A l.length c) l
set_option maxRecDepth 100000 in
set_option maxHeartbeats 8000000 in
theorem refOf_any (A : Option Addr) (c : Nat) (l : List Nd) (w : World) (h : NR w w.heap.size A l) (hf : Fit l) :
    Calls Try.prog 8 #[.slice A l.length c] w (OutN w (of l)) := by
  obtain ⟨L, hL⟩ : ∃ L, of l = L := ⟨_, rfl⟩
  rw [hL]
  replace hL := Lib.hid hL
  replace h := Lib.hid h
  have hl1 := hf.1
  replace hf := Lib.hid hf
  go_enter Try.func8, Try.ntmps8
  go_wp2
  go_loopw [3, 4] (fun v3 v4 wr => ∃ k : Nat, k ≤ l.length ∧ v4 = .int .i64 (k : Int) ∧ Hid (SN w.heap.size wr v3 (sorted (l.take k)) ∧ NR wr w.heap.size A l ∧ Gr w wr)) (fun _ v4 _ => l.length - (intOf v4).toNat)
  case atStart => exact ⟨0, by omega, rfl, Lib.hid ⟨⟨none, 0, rfl, ON.nil_ _ _⟩, h.out, Gr.refl w⟩⟩
  case round =>
    clear h
    obtain ⟨k, hk, rfl, hst⟩ := hrel
    obtain ⟨⟨A0, c0, rfl, ho⟩, h, gg⟩ := hst.out
    clear hst
    by_cases hkl : k < l.length
    · have ij : (k : Int) < (l.length : Int) := by omega
      have kw : IntKind.i64.wrap ((k : Int) + 1) = (k : Int) + 1 := IntWalk.i64_in _ (by omega)
      obtain ⟨ad, rfl, hlt, e0, e1, e2, e3, e4⟩ := h.at_ hkl
      have hxk := hf.out.2 _ (List.getElem_mem hkl)
      have hs := sorted_take l hkl
      have hfs := hf.out.sorted_ k
      generalize l[k] = x at *
      generalize sorted (l.take k) = S at *
      have hch := Lib.hid (fun w => refCheck_any x w hxk.1 hxk.2)
      have hsz := Below.size gg
      go_wp2_with fail
      go_at_call 19
      refine (hch.out wr).mono ?_
      rintro e w1 ⟨rfl, g1⟩
      have s1 := Below.size g1
      have o1 : ON w1 w.heap.size (.slice A0 S.length c0) S := ho.below g1
      have h1 := h.below (g1.mono hsz)
      have gg1 := Gr.trans gg g1
      have hbl : ∀ j, (⟨(ad.add (k * 5)).block, j, none⟩ : Addr).block < wr.heap.size := fun j => by show (ad.add (k * 5)).block < _; rw [block_of_add]; omega
      have hbl0 : (ad.add (k * 5)).block < wr.heap.size := by rw [block_of_add]; omega
      replace e0 := (g1.cell (p := ad.add (k * 5)) hbl0).trans e0
      replace e1 := (g1.cell (p := ⟨(ad.add (k * 5)).block, (ad.add (k * 5)).off + 1, none⟩) hbl0).trans e1
      replace e2 := (g1.cell (p := ⟨(ad.add (k * 5)).block, (ad.add (k * 5)).off + 2, none⟩) hbl0).trans e2
      replace e3 := (g1.cell (p := ⟨(ad.add (k * 5)).block, (ad.add (k * 5)).off + 3, none⟩) hbl0).trans e3
      replace e4 := (g1.cell (p := ⟨(ad.add (k * 5)).block, (ad.add (k * 5)).off + 4, none⟩) hbl0).trans e4
      clear hch g1 ho h gg hbl hbl0
      by_cases c1 : nodeC x = 0
      · have c1b : (((nodeC x : Nat) : Int) == 0) = true := by rw [c1]; rfl
        have hat := Lib.hid (refAt_any A0 c0 S.length S x.p w1 w1.heap.size rfl (OR.reads o1) (by have := hfs.1; omega))
        obtain ⟨i, hi⟩ : ∃ i, atI S x.p = i := ⟨_, rfl⟩
        rw [hi] at hat
        by_cases c2 : at_ S x.p = none
        · have i1 : i < 0 := by rw [← hi]; exact atI_none c2
          rw [sstep, if_pos ⟨c1, c2⟩] at hs
          obtain ⟨A0', c0', hv, hc1, hc2⟩ := OR.shape o1
          have hcc : S.length ≤ c0 := by simp only [Value.slice.injEq] at hv; omega
          have hin := Lib.hid (refInsert_any A0 c0 S x w1 (OR.reads o1) hcc (by have := hfs.1; omega) (fun y hy => (hfs.2 y hy).1) hxk.1)
          replace hs := Lib.hid hs
          replace h1 := Lib.hid h1
          replace gg1 := Lib.hid gg1
          clear hv hc1 hc2 hi c1 c2 o1 hxk hfs hf
          go_wp2_with fail
          go_at_call 12
          refine hat.out.mono ?_
          rintro e w2 ⟨rfl, rfl⟩
          clear hat
          go_wp2_with fail
          go_at_call 20
          refine hin.out.mono ?_
          rintro e w2 ⟨A2, c2, rfl, o2, g2⟩
          have hz := Below.size gg1.out
          have o3 : ON w2 w.heap.size (.slice A2 (insert S x).length c2) (insert S x) := OR.base_le o2 hz
          have h3 := h1.out.below (g2.mono hz)
          have g3 := Gr.trans gg1.out g2
          rw [← hs.out] at o3 ⊢
          replace o3 := Lib.hid (show _ ∧ _ ∧ _ from ⟨o3, h3, g3⟩)
          clear hin o2 g2 h3 g3 h1 gg1 e0 e1 e2 e3 e4 hs
          go_wp2
          exact ⟨⟨k + 1, by omega, by go_num, Lib.hid ⟨⟨A2, c2, rfl, o3.out.1⟩, o3.out.2.1, o3.out.2.2⟩⟩, by simp [intOf]; omega⟩
        · have i1 : ¬ i < 0 := by rw [← hi]; exact atI_some c2
          rw [sstep, if_neg (fun e => c2 e.2)] at hs
          rw [← hs] at hat
          rw [← hs]
          rw [← hs] at o1
          replace o1 := Lib.hid (show _ ∧ _ ∧ _ from ⟨o1, h1, gg1⟩)
          clear hs h1 gg1 hi c1 c2 hxk hfs hf
          go_wp2_with fail
          go_at_call 12
          refine hat.out.mono ?_
          rintro e w2 ⟨rfl, rfl⟩
          clear hat e0 e1 e2 e3 e4
          go_wp2
          exact ⟨⟨k + 1, by omega, by go_num, Lib.hid ⟨⟨A0, c0, rfl, o1.out.1⟩, o1.out.2.1, o1.out.2.2⟩⟩, by simp [intOf]; omega⟩
      · have c1b : (((nodeC x : Nat) : Int) == 0) = false := by
          have : ¬ ((nodeC x : Nat) : Int) = 0 := by omega
          simpa using this
        rw [sstep, if_neg (fun e => c1 e.1)] at hs
        rw [← hs]
        rw [← hs] at o1
        replace o1 := Lib.hid (show _ ∧ _ ∧ _ from ⟨o1, h1, gg1⟩)
        clear hs h1 gg1 c1 hxk hfs hf e0 e1 e2 e3 e4
        go_wp2
        exact ⟨⟨k + 1, by omega, by go_num, Lib.hid ⟨⟨A0, c0, rfl, o1.out.1⟩, o1.out.2.1, o1.out.2.2⟩⟩, by simp [intOf]; omega⟩
    · obtain rfl : k = l.length := by omega
      have hfs := hf.out.sorted_ l.length
      rw [List.take_length] at ho hfs ⊢
      have hLe : taken (sorted l) = L := hL.out
      generalize sorted l = S at *
      have hS1 := hfs.1
      have kk : ¬ (l.length : Int) < (l.length : Int) := by omega
      have hsz := Below.size gg
      obtain ⟨B, hB⟩ : ∃ B, wr.heap.size = B := ⟨_, rfl⟩
      have hr := Lib.hid (show NR wr B A0 S ∧ Gr w wr ∧ B ≤ wr.heap.size from ⟨hB ▸ (OR.reads ho), gg, by omega⟩)
      replace hLe := Lib.hid hLe
      replace hfs := Lib.hid hfs
      rw [hB] at hsz
      clear ho h gg hL hB hf
      go_wp2
      go_loopw [5, 6] (fun v5 v6 wz => ∃ m : Nat, m ≤ S.length ∧ v6 = .int .i64 (m : Int) ∧ Hid (SN B wz v5 (taken (S.take m)) ∧ NR wz B A0 S ∧ Gr w wz ∧ B ≤ wz.heap.size)) (fun _ v6 _ => S.length - (intOf v6).toNat)
      case atStart => exact ⟨0, by omega, rfl, Lib.hid ⟨⟨none, 0, rfl, ON.nil_ _ _⟩, hr.out.1, hr.out.2.1, hr.out.2.2⟩⟩
      case round =>
        clear hr
        obtain ⟨m, hm, rfl, hst⟩ := hrel
        obtain ⟨⟨A1, c1, rfl, ho⟩, h, gg, hBz⟩ := hst.out
        clear hst
        by_cases hml : m < S.length
        · have ij : (m : Int) < (S.length : Int) := by omega
          have kw : IntKind.i64.wrap ((m : Int) + 1) = (m : Int) + 1 := IntWalk.i64_in _ (by omega)
          obtain ⟨ad, rfl, hlt, e0, e1, e2, e3, e4⟩ := h.at_ hml
          have hxk := hfs.out.2 _ (List.getElem_mem hml)
          have hs := taken_take S hml
          have hft := hfs.out.taken_ m
          have ht1 := hft.1
          generalize S[m] = x at *
          generalize taken (S.take m) = T at *
          have hpa := Lib.hid (refParent_any A1 c1 T.length T x.p wr rfl (OR.reads ho) (by omega) hxk.1)
          obtain ⟨z, hz⟩ : ∃ z, parentC T x.p = z := ⟨_, rfl⟩
          rw [hz] at hpa
          rw [tstep, hz] at hs
          go_wp2_with fail
          go_at_call 21
          refine hpa.out.mono ?_
          rintro e w1 ⟨rfl, g1⟩
          have s1 := Below.size g1
          have o1 : ON w1 B (.slice A1 T.length c1) T := ho.below g1
          have h1 := h.below (g1.mono hBz)
          have gg1 := Gr.trans gg g1
          have hbl0 : (ad.add (m * 5)).block < wr.heap.size := by rw [block_of_add]; omega
          replace e0 := (g1.cell (p := ad.add (m * 5)) hbl0).trans e0
          replace e1 := (g1.cell (p := ⟨(ad.add (m * 5)).block, (ad.add (m * 5)).off + 1, none⟩) hbl0).trans e1
          replace e2 := (g1.cell (p := ⟨(ad.add (m * 5)).block, (ad.add (m * 5)).off + 2, none⟩) hbl0).trans e2
          replace e3 := (g1.cell (p := ⟨(ad.add (m * 5)).block, (ad.add (m * 5)).off + 3, none⟩) hbl0).trans e3
          replace e4 := (g1.cell (p := ⟨(ad.add (m * 5)).block, (ad.add (m * 5)).off + 4, none⟩) hbl0).trans e4
          have hB1 : B ≤ w1.heap.size := by omega
          clear hpa g1 ho h gg hbl0 hxk hft hz
          by_cases c1' : z = 0
          · have c1b : (((z : Nat) : Int) == 0) = true := by rw [c1']; rfl
            by_cases c2' : T.length < 512
            · have i1 : (T.length : Int) < 512 := by omega
              rw [if_pos ⟨c1', c2'⟩] at hs
              have o2 := Lib.hid (o1.alloc (.cells (ndC x) 34))
              have n1 := Lib.hid (NR.new1 w1 34 x)
              have gX := (Gr.refl w1).alloc (.cells (ndC x) 34)
              have h2 := Lib.hid (h1.below (gX.mono hB1))
              have g2 := Lib.hid (Gr.trans gg1 gX)
              replace hs := Lib.hid hs
              clear o1 h1 gg1 c1' c2' gX hfs
              go_wp2_with (first
                | ((with_reducible refine wpList_isApp (.tmp 54) (.tmp 59) 22 rfl ?_); refine wpList_append_rowsN (base := B) (v := .slice A1 T.length c1) rfl (.tmp 54) (.tmp 59) 22 rfl Try.underlying22 nodeRow rfl (by exact o2.out) (w1.heap.size + 1) (some ⟨w1.heap.size, 0, none⟩) 1 1 (ncs [x]) rfl (by exact n1.out) (ncs_one_cell _) (by unfold maxLen; omega) (by omega) (by rw [World.size_alloc]; omega) (ncs (T ++ [x])) (ncs_append _ _) (T.length + 1) rfl ?_; intro A9 c9 w9 o9 b9; replace h2 := h2.out.below b9; replace g2 := Below.trans g2.out (b9.mono hsz); have s9 := Below.size b9; rw [World.size_alloc] at s9; replace o9 := Lib.hid o9; replace h2 := Lib.hid h2; replace g2 := Lib.hid g2; clear o2 n1 b9 e0 e1 e2 e3 e4))
              have hlen : (taken (S.take (m + 1))).length = T.length + 1 := by rw [hs.out, List.length_append]; rfl
              refine ⟨⟨m + 1, by omega, by go_num, Lib.hid ⟨⟨A9, c9, by rw [hlen], ?_⟩, h2.out, g2.out, by omega⟩⟩, by simp [intOf]; omega⟩
              unfold ON
              rw [hlen, hs.out]
              exact o9.out
            · have i1 : ¬ (T.length : Int) < 512 := by omega
              rw [if_neg (fun e => c2' e.2)] at hs
              rw [← hs]
              rw [← hs] at o1
              replace o1 := Lib.hid (show _ ∧ _ ∧ _ from ⟨o1, h1, gg1⟩)
              rw [← hs] at i1
              clear hs h1 gg1 c1' c2' e0 e1 e2 e3 e4 hfs
              go_wp2
              exact ⟨⟨m + 1, by omega, by go_num, Lib.hid ⟨⟨A1, c1, rfl, o1.out.1⟩, o1.out.2.1, o1.out.2.2, hB1⟩⟩, by simp [intOf]; omega⟩
          · have c1b : (((z : Nat) : Int) == 0) = false := by
              have : ¬ ((z : Nat) : Int) = 0 := by omega
              simpa using this
            rw [if_neg (fun e => c1' e.1)] at hs
            rw [← hs]
            rw [← hs] at o1
            replace o1 := Lib.hid (show _ ∧ _ ∧ _ from ⟨o1, h1, gg1⟩)
            clear hs h1 gg1 c1' e0 e1 e2 e3 e4 hfs
            go_wp2
            exact ⟨⟨m + 1, by omega, by go_num, Lib.hid ⟨⟨A1, c1, rfl, o1.out.1⟩, o1.out.2.1, o1.out.2.2, hB1⟩⟩, by simp [intOf]; omega⟩
        · obtain rfl : m = S.length := by omega
          rw [List.take_length, hLe.out] at ho
          rw [List.take_length, hLe.out]
          replace ho := Lib.hid (show _ ∧ _ from ⟨ho, gg⟩)
          clear h gg hLe hfs
          go_wp2
          go_ret
          exact ⟨A1, c1, rfl, OR.base_le ho.out.1 hsz, ho.out.2⟩
theorem kids_take (l : List Nd) (p : List UInt8) {k : Nat} (h : k < l.length) : kids (l.take (k + 1)) p = kids (l.take k) p ++ (if parent l[k].p = some p then [l[k]] else []) := by
  unfold kids
  rw [List.take_succ_eq_append_getElem h, List.filter_append]
  congr 1
  by_cases e : parent l[k].p = some p
  · rw [if_pos e, List.filter_cons_of_pos (by simpa using e)]; rfl
  · rw [if_neg e, List.filter_cons_of_neg (by simpa using e)]; rfl
theorem kids_len (l : List Nd) (p : List UInt8) : (kids l p).length ≤ l.length := List.length_filter_le _ _
set_option maxRecDepth 100000 in
set_option maxHeartbeats 8000000 in
theorem refKids_any (A : Option Addr) (c : Nat) (l : List Nd) (p : List UInt8) (w : World) (h : NR w w.heap.size A l) (hf : Fit l) :
    Calls Try.prog 47 #[.slice A l.length c, str p] w (OutN w (kids l p)) := by
  obtain ⟨L, hL⟩ : ∃ L, kids l p = L := ⟨_, rfl⟩
  rw [hL]
  replace hL := Lib.hid hL
  replace h := Lib.hid h
  have hl1 := hf.1
  replace hf := Lib.hid hf
  go_enter Try.func47, Try.ntmps47
  go_wp2
  go_loopw [5, 6, 7, 8] (fun v5 v6 _ _ wr => ∃ k : Nat, k ≤ l.length ∧ v6 = .int .i64 (k : Int) ∧ Hid (SN w.heap.size wr v5 (kids (l.take k) p) ∧ NR wr w.heap.size A l ∧ Gr w wr)) (fun _ v6 _ _ _ => l.length - (intOf v6).toNat)
  case atStart => exact ⟨0, by omega, rfl, Lib.hid ⟨⟨none, 0, rfl, ON.nil_ _ _⟩, h.out, Gr.refl w⟩⟩
  case round =>
    clear h
    obtain ⟨k, hk, rfl, hst⟩ := hrel
    obtain ⟨⟨A0, c0, rfl, ho⟩, h, gg⟩ := hst.out
    clear hst
    by_cases hkl : k < l.length
    · have ij : (k : Int) < (l.length : Int) := by omega
      have kw : IntKind.i64.wrap ((k : Int) + 1) = (k : Int) + 1 := IntWalk.i64_in _ (by omega)
      obtain ⟨ad, rfl, hlt, e0, e1, e2, e3, e4⟩ := h.at_ hkl
      have hxk := hf.out.2 _ (List.getElem_mem hkl)
      have hs := kids_take l p hkl
      have hkn : (kids (l.take k) p).length ≤ 1000 := Nat.le_trans (kids_len _ _) (by rw [List.length_take]; omega)
      generalize l[k] = x at *
      generalize kids (l.take k) p = S at *
      have hsz := Below.size gg
      have hpa := Lib.hid (Pth.refParent_any x.p wr hxk.1)
      obtain ⟨ok, q, hq1, hq2⟩ : ∃ (ok : Bool) (q : List UInt8), parentV (parent x.p) = .tuple #[str q, .bool ok] ∧ ((ok = true ∧ q = p) ↔ parent x.p = some p) := by
        cases e : parent x.p with
        | none => exact ⟨false, [], rfl, by simp⟩
        | some q => exact ⟨true, q, rfl, by simp⟩
      rw [hq1] at hpa
      clear hq1 hxk
      go_wp2_with fail
      go_at_call 38
      refine hpa.out.mono ?_
      rintro e w1 ⟨rfl, g1⟩
      have s1 := Below.size g1
      have o1 : ON w1 w.heap.size (.slice A0 S.length c0) S := ho.below g1
      have h1 := h.below (g1.mono hsz)
      have gg1 := Gr.trans gg g1
      have hbl0 : (ad.add (k * 5)).block < wr.heap.size := by rw [block_of_add]; omega
      replace e0 := (g1.cell (p := ad.add (k * 5)) hbl0).trans e0
      replace e1 := (g1.cell (p := ⟨(ad.add (k * 5)).block, (ad.add (k * 5)).off + 1, none⟩) hbl0).trans e1
      replace e2 := (g1.cell (p := ⟨(ad.add (k * 5)).block, (ad.add (k * 5)).off + 2, none⟩) hbl0).trans e2
      replace e3 := (g1.cell (p := ⟨(ad.add (k * 5)).block, (ad.add (k * 5)).off + 3, none⟩) hbl0).trans e3
      replace e4 := (g1.cell (p := ⟨(ad.add (k * 5)).block, (ad.add (k * 5)).off + 4, none⟩) hbl0).trans e4
      clear hpa g1 ho h gg hbl0
      by_cases c1' : ok = true ∧ q = p
      · rw [if_pos (hq2.1 c1')] at hs
        obtain ⟨rfl, rfl⟩ := c1'
        have o2 := Lib.hid (o1.alloc (.cells (ndC x) 34))
        have n1 := Lib.hid (NR.new1 w1 34 x)
        have gX := (Gr.refl w1).alloc (.cells (ndC x) 34)
        have hB1 : w.heap.size ≤ w1.heap.size := by omega
        have h2 := Lib.hid (h1.below (gX.mono hB1))
        have g2 := Lib.hid (Gr.trans gg1 gX)
        replace hs := Lib.hid hs
        clear o1 h1 gg1 gX hf hq2
        go_wp2_with (first
          | ((with_reducible refine wpList_isApp (.tmp 30) (.tmp 35) 22 rfl ?_); refine wpList_append_rowsN (base := w.heap.size) (v := .slice A0 S.length c0) rfl (.tmp 30) (.tmp 35) 22 rfl Try.underlying22 nodeRow rfl (by exact o2.out) (w1.heap.size + 1) (some ⟨w1.heap.size, 0, none⟩) 1 1 (ncs [x]) rfl (by exact n1.out) (ncs_one_cell _) (by unfold maxLen; omega) (by omega) (by rw [World.size_alloc]; omega) (ncs (S ++ [x])) (ncs_append _ _) (S.length + 1) rfl ?_; intro A9 c9 w9 o9 b9; replace h2 := h2.out.below b9; replace g2 := Below.trans g2.out b9; replace o9 := Lib.hid o9; replace h2 := Lib.hid h2; replace g2 := Lib.hid g2; clear o2 n1 b9 e0 e1 e2 e3 e4))
        have hlen : (kids (l.take (k + 1)) q).length = S.length + 1 := by rw [hs.out, List.length_append]; rfl
        refine ⟨⟨k + 1, by omega, by go_num, Lib.hid ⟨⟨A9, c9, by rw [hlen], ?_⟩, h2.out, g2.out⟩⟩, by simp [intOf]; omega⟩
        unfold ON
        rw [hlen, hs.out]
        exact o9.out
      · rw [if_neg (fun e => c1' (hq2.2 e)), List.append_nil] at hs
        rw [← hs]
        rw [← hs] at o1
        replace o1 := Lib.hid (show _ ∧ _ ∧ _ from ⟨o1, h1, gg1⟩)
        clear hs h1 gg1 e0 e1 e2 e3 e4 hf hq2 hkn
        cases ok with
        | false =>
          clear c1'
          go_wp2
          exact ⟨⟨k + 1, by omega, by go_num, Lib.hid ⟨⟨A0, c0, rfl, o1.out.1⟩, o1.out.2.1, o1.out.2.2⟩⟩, by simp [intOf]; omega⟩
        | true =>
          have qb : (q == p) = false := by simpa using c1'
          clear c1'
          go_wp2
          exact ⟨⟨k + 1, by omega, by go_num, Lib.hid ⟨⟨A0, c0, rfl, o1.out.1⟩, o1.out.2.1, o1.out.2.2⟩⟩, by simp [intOf]; omega⟩
    · obtain rfl : k = l.length := by omega
      rw [List.take_length, hL.out] at ho
      rw [List.take_length, hL.out]
      replace ho := Lib.hid (show _ ∧ _ from ⟨ho, gg⟩)
      clear h gg hL hf
      go_wp2
      go_ret
      exact ⟨A0, c0, rfl, ho.out.1, ho.out.2⟩
end Tr
end Go.Proofs.Yteadcblmomngpaa
namespace Go.Proofs.Yteadcblmomngpaa
open Go Go.RowKit W Pth
namespace Pth
theorem parent_len {p q : List UInt8} (h : parent p = some q) : q.length ≤ p.length := by
  unfold parent at h
  by_cases e : names p = []
  · rw [if_pos e] at h; cases h
  · rw [if_neg e] at h
    injection h with h
    subst h
    have hr : right p = true := by
      cases hb : right p with
      | true => rfl
      | false => exact absurd (names_wrong hb) e
    have hg := glue_names hr
    by_cases hd : (names p).dropLast = []
    · rw [hd]; exact Nat.zero_le _
    · have hs := List.dropLast_concat_getLast e
      have : glue (names p) = glue (names p).dropLast ++ 47 :: (names p).getLast e := by
        conv => lhs; rw [← hs]
        exact glue_snoc _ _ hd
      rw [hg] at this
      conv => rhs; rw [this]
      rw [List.length_append]
      omega
end Pth
namespace Tr
open Sm
/-- Different paths, none of them empty. -/
def Uniq (t : List Nd) : Prop := (t.map (·.p)).Nodup ∧ ∀ n ∈ t, n.p ≠ []
theorem Uniq.find_ {t : List Nd} (h : Uniq t) {n : Nd} (hn : n ∈ t) : find t n.p = some n := by
  have h1 := h.1
  clear h
  unfold find
  induction t with
  | nil => cases hn
  | cons a t ih =>
    rw [List.map_cons, List.nodup_cons] at h1
    rw [List.find?_cons]
    rcases List.mem_cons.1 hn with rfl | hn
    · simp
    · have hne : a.p ≠ n.p := fun e => h1.1 (by rw [e]; exact List.mem_map.2 ⟨n, hn, rfl⟩)
      have : (a.p == n.p) = false := by simpa using hne
      rw [this]
      exact ih hn h1.2
theorem insert_perm (l : List Nd) (n : Nd) : (insert l n).Perm (n :: l) := by
  unfold insert
  refine List.perm_middle.trans (List.Perm.cons n ?_)
  rw [List.takeWhile_append_dropWhile]
theorem sorted_uniq (l : List Nd) : Uniq (sorted l) := by
  unfold sorted
  suffices h : ∀ s, Uniq s → Uniq (l.foldl (fun s n => if nodeC n = 0 ∧ at_ s n.p = none then insert s n else s) s) from h [] ⟨by simp, by simp⟩
  induction l with
  | nil => exact fun s h => h
  | cons a l ih =>
    intro s hs
    rw [List.foldl_cons]
    refine ih _ ?_
    by_cases hc : nodeC a = 0 ∧ at_ s a.p = none
    · rw [if_pos hc]
      have hp := insert_perm s a
      have hne : a.p ≠ [] := fun e => by
        have := hc.1
        unfold nodeC Pth.nodeC at this
        rw [if_pos (.inl e)] at this
        cases this
      refine ⟨(hp.map (·.p)).nodup_iff.2 ?_, fun n hn => ?_⟩
      · rw [List.map_cons, List.nodup_cons]
        refine ⟨fun hm => ?_, hs.1⟩
        obtain ⟨x, hx, e⟩ := List.mem_map.1 hm
        exact (at_none hc.2).1 x hx e
      · rcases List.mem_cons.1 (hp.mem_iff.1 hn) with rfl | hn
        · exact hne
        · exact hs.2 n hn
    · rw [if_neg hc]
      exact hs
theorem taken_sub (l : List Nd) : (taken l).Sublist l := by
  unfold taken
  suffices h : ∀ (s m : List Nd), s.Sublist m → (l.foldl (fun o n => if parentC o n.p = 0 ∧ o.length < 512 then o ++ [n] else o) s).Sublist (m ++ l) from by simpa using h [] [] (List.Sublist.refl _)
  induction l with
  | nil => intro s m h; simpa using h
  | cons a l ih =>
    intro s m h
    rw [List.foldl_cons, show m ++ a :: l = (m ++ [a]) ++ l by simp]
    refine ih _ _ ?_
    by_cases hc : parentC s a.p = 0 ∧ s.length < 512
    · rw [if_pos hc]
      exact h.append (List.Sublist.refl _)
    · rw [if_neg hc]
      exact h.trans (List.sublist_append_left _ _)
theorem of_uniq (l : List Nd) : Uniq (of l) := by
  have h := sorted_uniq l
  have hs := taken_sub (sorted l)
  exact ⟨(hs.map _).nodup h.1, fun n hn => h.2 n (hs.subset hn)⟩
/-- What f says of each directory of l: a slice of its own, at or above B. -/
def KF (w : World) (B : Nat) (l : List Nd) (f : List UInt8 → Option Value) : Prop := ∀ p, (f p).elim (kids l p = []) (fun v => ON w B v (kids l p))
def Apart (f : List UInt8 → Option Value) : Prop := ∀ p q v u g, f p = some v → f q = some u → v.ownBlock = some g → u.ownBlock = some g → p = q
/-- The map of each directory's nodes. -/
def Grp (w : World) (kb : Nat) (l : List Nd) : Prop := ∃ f, SM w kb l.length f ∧ KF w (kb + 3) l f ∧ Apart f
theorem KF.gr {w w' : World} {B : Nat} {l : List Nd} {f : List UInt8 → Option Value} (h : KF w B l f) (g : Gr w w') : KF w' B l f := fun p => by
  have := h p
  cases e : f p with
  | none => rw [e] at this; exact this
  | some v => rw [e] at this; exact ON.below this g
theorem KF.kb {w w' : World} {B b : Nat} {l : List Nd} {f : List UInt8 → Option Value} (h : KF w B l f) (g : Kb b w w') (hb : b < B) : KF w' B l f := fun p => by
  have := h p
  cases e : f p with
  | none => rw [e] at this; exact this
  | some v =>
    rw [e] at this
    refine World.ownsRow.kept this g ?_
    cases hv : v.ownBlock with
    | none => exact .inl rfl
    | some x =>
      refine .inr fun e2 => ?_
      have := (World.ownsRow.lt this x hv).1
      injection e2 with e2
      omega
theorem Grp.gr {w w' : World} {kb : Nat} {l : List Nd} (h : Grp w kb l) (g : Gr w w') : Grp w' kb l := by
  obtain ⟨f, h1, h2, h3⟩ := h
  exact ⟨f, h1.ext (g.block kb h1.lt), h2.gr g, h3⟩
theorem kids_snoc (l : List Nd) (n : Nd) (p : List UInt8) : kids (l ++ [n]) p = kids l p ++ (if parent n.p = some p then [n] else []) := by
  unfold kids
  rw [List.filter_append]
  by_cases h : parent n.p = some p
  · rw [if_pos h]; simp [h]
  · rw [if_neg h]; simp [h]
theorem Grp.skip {w : World} {kb : Nat} {l : List Nd} {n : Nd} (h : Grp w kb l) (hn : parent n.p = none) : Grp w kb (l ++ [n]) := by
  obtain ⟨f, h1, h2, h3⟩ := h
  refine ⟨f, h1.mono (by simp), fun p => ?_, h3⟩
  have := h2 p
  rw [kids_snoc, hn, if_neg (by simp), List.append_nil]
  exact this
/-- The look-up, and the way back behind an append. -/
theorem Grp.look {w : World} {kb : Nat} {l : List Nd} (h : Grp w kb l) (n : Nd) {p : List UInt8} (hn : parent n.p = some p) (hp : p.length ≤ maxLen) (hl : l.length < maxLen) : ∃ V, ON w (kb + 3) V (kids l p) ∧
    (∀ w', Gr w w' → (Instr.lookup 72 (.map (some kb)) (str p) false).run Try.prog w' = .ok V w') ∧
    ∀ w1 w2 w3 v', Gr w w1 → w1.grownBy w2 V.ownBlock → Gr w2 w3 → ON w2 (kb + 3) v' (kids l p ++ [n]) → (v'.ownBlock = V.ownBlock ∨ v'.ownBlock = some w1.heap.size) →
      ∃ w4, (Instr.mapUpdate 72 (.map (some kb)) (str p) v').run Try.prog w3 = .ok () w4 ∧ Grp w4 kb (l ++ [n]) ∧ Kb kb w3 w4 ∧ w4.heap.size = w3.heap.size := by
  obtain ⟨f, h1, h2, h3⟩ := h
  have hV : ON w (kb + 3) ((f p).getD (.slice none 0 0)) (kids l p) := by
    have := h2 p
    cases e : f p with
    | none => rw [e] at this; rw [show kids l p = [] from this]; exact ON.nil_ _ _
    | some v => rw [e] at this; exact this
  have hVf : ∀ g, ((f p).getD (.slice none 0 0)).ownBlock = some g → f p = some ((f p).getD (.slice none 0 0)) := by
    intro g hg
    cases e : f p with
    | none => rw [e] at hg; cases hg
    | some v => rfl
  refine ⟨_, hV, fun w' g => (h1.ext (g.block kb h1.lt)).look Try.underlying72 (z := .slice none 0 0) (by kernel_rfl) hp, fun w1 w2 w3 v' g1 g2 g3 ho hb => ?_⟩
  have k1 := h1.ext (g1.block kb h1.lt)
  have hlt1 := k1.lt
  have hne : some kb ≠ ((f p).getD (.slice none 0 0)).ownBlock := fun e => by have := (World.ownsRow.lt hV kb e.symm).1; omega
  have k2 : SM w2 kb l.length f := k1.kept g2 hne
  have k3 := k2.ext (g3.block kb k2.lt)
  obtain ⟨w4, hrun, k4, kk, hz⟩ := k3.store (T := 72) Try.underlying72 hl hp v'
  have kf1 := h2.gr g1
  refine ⟨w4, hrun, ⟨_, by rw [List.length_append]; exact k4, fun q => ?_, fun q r v u g hv hu hvg hug => ?_⟩, kk, hz⟩
  · by_cases hq : q = p
    · subst hq
      simp only [if_true]
      show ON w4 (kb + 3) v' (kids (l ++ [n]) q)
      rw [kids_snoc, if_pos hn]
      refine World.ownsRow.kept (ON.below ho g3) kk ?_
      cases hv : v'.ownBlock with
      | none => exact .inl rfl
      | some x =>
        refine .inr fun e2 => ?_
        have := (World.ownsRow.lt ho x hv).1
        injection e2 with e2
        omega
    · simp only [if_neg hq]
      have := kf1 q
      rw [kids_snoc, hn, if_neg (fun e => hq (Option.some.inj e).symm), List.append_nil]
      cases e : f q with
      | none => rw [e] at this; exact this
      | some u =>
        rw [e] at this
        show ON w4 (kb + 3) u (kids l q)
        have o2 : ON w2 (kb + 3) u (kids l q) := World.ownsRow.kept this g2 (by
          cases hu : u.ownBlock with
          | none => exact .inl rfl
          | some x => exact .inr fun e2 => hq (h3 q p u _ x e (hVf x e2.symm) hu e2.symm))
        refine World.ownsRow.kept (ON.below o2 g3) kk ?_
        cases hv : u.ownBlock with
        | none => exact .inl rfl
        | some x =>
          refine .inr fun e2 => ?_
          have := (World.ownsRow.lt o2 x hv).1
          injection e2 with e2
          omega
  · have key : ∀ q u g, q ≠ p → f q = some u → u.ownBlock = some g → v'.ownBlock = some g → False := by
      intro q u g hq e hug hvg
      rcases hb with hb | hb
      · rw [hb] at hvg
        exact hq (h3 q p u _ g e (hVf g hvg) hug hvg)
      · have hu1 := kf1 q
        rw [e] at hu1
        have := (World.ownsRow.lt hu1 g hug).2
        rw [hb] at hvg
        injection hvg with hvg
        omega
    by_cases hq : q = p
    · by_cases hr : r = p
      · rw [hq, hr]
      · simp only [if_pos hq, if_neg hr] at hv hu
        obtain rfl := Option.some.inj hv
        exact (key r u g hr hu hug hvg).elim
    · by_cases hr : r = p
      · simp only [if_neg hq, if_pos hr] at hv hu
        obtain rfl := Option.some.inj hu
        exact (key q v g hq hv hvg hug).elim
      · simp only [if_neg hq, if_neg hr] at hv hu
        exact h3 q r v u g hv hu hvg hug
/-- A printer of t, in the blocks kb, kb + 1, kb + 2. -/
structure Prn (w : World) (kb : Nat) (t : List Nd) : Prop where
  pb : Blk w (kb + 1 + 1) 75 #[.map (some kb), .map (some (kb + 1))]
  kids_ : ∃ f n, SM w kb n f ∧ KF w (kb + 3) t f
  met : ∃ f n, SM w (kb + 1) n f ∧ ∀ p v, f p = some v → v = .agg #[.int .u64 (n64 (Mix.of (textP t p)).1), .int .u64 (n64 (Mix.of (textP t p)).2)] ∧ (p = [] ∨ p ∈ t.map (·.p))
theorem Prn.gr {w w' : World} {kb : Nat} {t : List Nd} (h : Prn w kb t) (g : Gr w w') : Prn w' kb t := by
  obtain ⟨h1, ⟨f, n, h2, h3⟩, ⟨f', n', h4, h5⟩⟩ := h
  exact ⟨blk_more h1 g, ⟨f, n, h2.ext (g.block kb h2.lt), h3.gr g⟩, ⟨f', n', h4.ext (g.block _ h4.lt), h5⟩⟩
theorem Prn.kids_at {w : World} {kb : Nat} {t : List Nd} (h : Prn w kb t) {p : List UInt8} (hp : p.length ≤ maxLen) : ∃ A c, NR w w.heap.size A (kids t p) ∧ (∀ g, A = some g → kb + 3 ≤ g.block) ∧ (kids t p).length ≤ c ∧
    ∀ w', Gr w w' → (Instr.lookup 72 (.map (some kb)) (str p) false).run Try.prog w' = .ok (.slice A (kids t p).length c) w' := by
  obtain ⟨_, ⟨f, n, h1, h2⟩, _⟩ := h
  have hV : ON w (kb + 3) ((f p).getD (.slice none 0 0)) (kids t p) := by
    have := h2 p
    cases e : f p with
    | none => rw [e] at this; rw [show kids t p = [] from this]; exact ON.nil_ _ _
    | some v => rw [e] at this; exact this
  have hrun := fun w' (g : Gr w w') => (h1.ext (g.block kb h1.lt)).look (T := 72) Try.underlying72 (z := .slice none 0 0) (by kernel_rfl) hp
  obtain ⟨A, c, e, h3, h4⟩ := hV.shape
  rw [e] at hV hrun
  refine ⟨A, c, hV.nr, fun g hg => ?_, h3, hrun⟩
  subst hg
  rcases hV.2 with ⟨hv, h0⟩ | ⟨x, cap, cur, hv, hg, _⟩
  · cases hv
  · injection hv with h1 _ _
    injection h1 with h1
    rw [h1]
    exact hg
/-- The slices of a printer lie as they lay when a print is met. -/
theorem Prn.store {w : World} {kb : Nat} {t : List Nd} (h : Prn w kb t) {p : List UInt8} (hp : p.length ≤ maxLen) (hm : p = [] ∨ p ∈ t.map (·.p)) (ht : t.length ≤ 1000000) {v : Value} (hv : v = .agg #[.int .u64 (n64 (Mix.of (textP t p)).1), .int .u64 (n64 (Mix.of (textP t p)).2)]) :
    ∃ w', (Instr.mapUpdate 73 (.map (some (kb + 1))) (str p) v).run Try.prog w = .ok () w' ∧ Prn w' kb t ∧ Kb (kb + 1) w w' ∧ w'.heap.size = w.heap.size := by
  obtain ⟨h1, ⟨f, n, h2, h3⟩, ⟨f', n', h4, h5⟩⟩ := h
  have h4' := h4.few ([] :: t.map (·.p)) (fun k v hk => by rcases (h5 k v hk).2 with rfl | e <;> simp_all)
  obtain ⟨w', hrun, k1, k2, k3⟩ := h4'.store (T := 73) Try.underlying73 (by rw [List.length_cons, List.length_map]; unfold maxLen; omega) hp v
  refine ⟨w', hrun, ⟨Kb.blk k2 h1 (by omega), ⟨f, n, h2.kept k2 (by simp), h3.kb k2 (by omega)⟩, ⟨_, _, k1, fun q u hq => ?_⟩⟩, k2, k3⟩
  by_cases e : q = p
  · subst e
    simp only [if_true] at hq
    obtain rfl := Option.some.inj hq
    exact ⟨hv, hm⟩
  · simp only [if_neg e] at hq
    exact h5 q u hq
/-- Is a print met? -/
theorem Prn.met_at {w : World} {kb : Nat} {t : List Nd} (h : Prn w kb t) {p : List UInt8} (hp : p.length ≤ maxLen) :
    (∀ w', Gr w w' → (Instr.lookup 73 (.map (some (kb + 1))) (str p) true).run Try.prog w' = .ok (.tuple #[.agg #[.int .u64 0, .int .u64 0], .bool false]) w') ∨
    (∀ w', Gr w w' → (Instr.lookup 73 (.map (some (kb + 1))) (str p) true).run Try.prog w' = .ok (.tuple #[.agg #[.int .u64 (n64 (Mix.of (textP t p)).1), .int .u64 (n64 (Mix.of (textP t p)).2)], .bool true]) w') := by
  obtain ⟨_, _, ⟨f, n, h1, h2⟩⟩ := h
  have hrun := fun w' (g : Gr w w') => (h1.ext (g.block _ h1.lt)).lookOk (T := 73) Try.underlying73 (z := .agg #[.int .u64 0, .int .u64 0]) (by kernel_rfl) hp
  cases e : f p with
  | none =>
    rw [e] at hrun
    exact .inl hrun
  | some v =>
    rw [e] at hrun
    rw [(h2 p v e).1] at hrun
    exact .inr hrun
end Tr
end Go.Proofs.Yteadcblmomngpaa
namespace Go.Proofs.Yteadcblmomngpaa
open Go Go.RowKit Go.Shelf W
namespace Pth
/-- The first c, or -1. -/
def FirstAt (l : List UInt8) (c : UInt8) (z : Int) : Prop := (z = -1 ∧ ∀ x ∈ l, x ≠ c) ∨ ∃ a r, l = a ++ c :: r ∧ (∀ x ∈ a, x ≠ c) ∧ z = (a.length : Int)
def LastAt (l : List UInt8) (c : UInt8) (z : Int) : Prop := (z = -1 ∧ ∀ x ∈ l, x ≠ c) ∨ ∃ a r, l = a ++ c :: r ∧ (∀ x ∈ r, x ≠ c) ∧ z = (a.length : Int)
theorem firstAt (l : List UInt8) (c : UInt8) : FirstAt l c (Lib.indexByte l c) := by
  induction l with
  | nil => exact .inl ⟨rfl, by simp⟩
  | cons b l ih =>
    unfold Lib.indexByte
    by_cases hb : b = c
    · subst hb
      rw [if_pos (by simp)]
      exact .inr ⟨[], l, rfl, by simp, rfl⟩
    · rw [if_neg (by simpa using hb)]
      rcases ih with ⟨e, h⟩ | ⟨a, r, e, h, hz⟩
      · rw [if_pos (by simpa using e)]
        refine .inl ⟨rfl, fun x hx => ?_⟩
        rcases List.mem_cons.1 hx with rfl | hx
        · exact hb
        · exact h x hx
      · rw [if_neg (by rw [hz]; simp), hz]
        refine .inr ⟨b :: a, r, by rw [e]; rfl, fun x hx => ?_, by simp⟩
        rcases List.mem_cons.1 hx with rfl | hx
        · exact hb
        · exact h x hx
set_option maxRecDepth 100000 in
set_option maxHeartbeats 1000000 in
theorem lite_any (l : List UInt8) (c : UInt8) (w : World) : Calls Try.prog 72 #[str l, .int .u8 (n8 c)] w fun e w' => e = .returned (.int .i64 (Lib.indexByte l c)) ∧ w' = w := by
  have hc : (n8 c).toNat.toUInt8 = c := by
    show (((c.toNat : Nat) : Int)).toNat.toUInt8 = c
    rw [Int.toNat_natCast]
    exact UInt8.ofNat_toNat
  go_enter Try.func72, Try.ntmps72
  go_wp2
  rw [run_callFunc_extern Try.func73 (by kernel_rfl) (by kernel_rfl) (by kernel_rfl) (e := Extern.BytealgIndexByte.indexByte) (by kernel_rfl), Lib.run_indexByteString, hc]
  simp only [Result.andThen]
  rw [Oper.upon_value]
  go_wp2
  go_ret
  exact ⟨rfl, rfl⟩
set_option maxRecDepth 100000 in
set_option maxHeartbeats 1000000 in
theorem index_any (l : List UInt8) (c : UInt8) (w : World) : Calls Try.prog 68 #[str l, .int .u8 (n8 c)] w fun e w' => e = .returned (.int .i64 (Lib.indexByte l c)) ∧ w' = w := by
  have h := Lib.hid (fun w => lite_any l c w)
  go_enter Try.func68, Try.ntmps68
  go_wp2_with fail
  go_at_call 72
  refine (h.out _).mono ?_
  rintro e w' ⟨rfl, rfl⟩
  go_wp2
  go_ret
  exact ⟨rfl, rfl⟩
set_option maxRecDepth 100000 in
set_option maxHeartbeats 2000000 in
theorem lastStr_any (l : List UInt8) (c : UInt8) (w : World) (hl : l.length ≤ 1000000) : Calls Try.prog 63 #[str l, .int .u8 (n8 c)] w fun e w' => (∃ z, e = .returned (.int .i64 z) ∧ LastAt l c z) ∧ w = w' := by
  have k0 : IntKind.i64.wrap ((l.length : Int) - 1) = (l.length : Int) - 1 := by rw [IntKind.wrap_i64]; omega
  go_enter Try.func63, Try.ntmps63
  go_wp2
  go_loop [5] (fun v5 => ∃ k : Nat, k ≤ l.length ∧ v5 = .int .i64 ((k : Int) - 1) ∧ Hid (∀ x ∈ l.drop k, x ≠ c)) (fun v5 => (intOf v5 + 1).toNat)
  case atStart => exact ⟨l.length, by omega, by first | rfl | rw [k0], Lib.hid (by simp)⟩
  case round =>
    clear k0
    obtain ⟨k, hk, rfl, hq⟩ := hrel
    by_cases h0 : k = 0
    · subst h0
      have i0 : ¬ (0 : Int) ≤ ((0 : Nat) : Int) - 1 := by omega
      have hq2 := hq.out
      rw [List.drop_zero] at hq2
      replace hq2 := Lib.hid hq2
      clear hq
      go_wp2
      go_ret
      exact ⟨⟨_, rfl, .inl ⟨rfl, hq2.out⟩⟩, rfl⟩
    · obtain ⟨m, rfl⟩ : ∃ m, k = m + 1 := ⟨k - 1, by omega⟩
      have e1 : (((m + 1 : Nat) : Int) - 1) = (m : Int) := by omega
      rw [e1]
      have hm : m < l.length := by omega
      have i0 : (0 : Int) ≤ (m : Int) := by omega
      have ij : (m : Int) < (l.length : Int) := by omega
      have kw : IntKind.i64.wrap ((m : Int) - 1) = (m : Int) - 1 := IntWalk.i64_in _ (by omega)
      have hsz : m < (⟨l.toArray⟩ : ByteArray).size := by simpa [ByteArray.size] using hm
      obtain ⟨d, hd⟩ : ∃ d, (⟨l.toArray⟩ : ByteArray)[m]'hsz = d := ⟨_, rfl⟩
      have hdl : l[m] = d := hd
      have hdr : l.drop m = d :: l.drop (m + 1) := by rw [List.drop_eq_getElem_cons hm, hdl]
      by_cases hcd : d = c
      · have eb : (n8 d == n8 c) = true := by rw [hcd]; simp
        have hla : LastAt l c (m : Int) := .inr ⟨l.take m, l.drop (m + 1), by rw [← hcd, ← hdr, List.take_append_drop], hq.out, by rw [List.length_take, Nat.min_eq_left (by omega)]⟩
        replace hla := Lib.hid hla
        clear hq hdl hdr hcd
        go_wp2
        go_ret
        exact ⟨⟨_, rfl, hla.out⟩, rfl⟩
      · have eb : (n8 d == n8 c) = false := by
          have : ¬ n8 d = n8 c := fun h => hcd (UInt8.toNat_inj.1 (by have h' : ((d.toNat : Nat) : Int) = ((c.toNat : Nat) : Int) := h; omega))
          simpa using this
        have hn : ∀ x ∈ l.drop m, x ≠ c := fun x hx => by
          rw [hdr] at hx
          rcases List.mem_cons.1 hx with rfl | hx
          · exact hcd
          · exact hq.out x hx
        replace hn := Lib.hid hn
        clear hq hdl hdr hcd
        go_wp2
        exact ⟨⟨m, by omega, by first | rfl | (rw [kw]), hn⟩, by simp [intOf] <;> omega⟩
set_option maxRecDepth 100000 in
set_option maxHeartbeats 1000000 in
theorem last_any (l : List UInt8) (c : UInt8) (w : World) (hl : l.length ≤ 1000000) : Calls Try.prog 42 #[str l, .int .u8 (n8 c)] w fun e w' => (∃ z, e = .returned (.int .i64 z) ∧ LastAt l c z) ∧ w = w' := by
  have h := Lib.hid (lastStr_any l c w hl)
  go_enter Try.func42, Try.ntmps42
  go_wp2_with fail
  go_at_call 63
  refine h.out.mono ?_
  rintro e w' ⟨⟨z, rfl, hz⟩, rfl⟩
  replace hz := Lib.hid hz
  go_wp2
  go_ret
  exact ⟨⟨z, rfl, hz.out⟩, rfl⟩
set_option maxRecDepth 100000 in
set_option maxHeartbeats 2000000 in
theorem letter_any (c : UInt8) (w : World) : Calls Try.prog 69 #[.int .u8 (n8 c)] w fun e w' => e = .returned (.bool (letter c)) ∧ w = w' := by
  obtain ⟨r, hr⟩ : ∃ r, letter c = r := ⟨_, rfl⟩
  rw [hr]
  have h1 : ((97 ≤ n8 c ∧ n8 c ≤ 122) ∨ (65 ≤ n8 c ∧ n8 c ≤ 90) ∨ (48 ≤ n8 c ∧ n8 c ≤ 57) ∨ n8 c = 46 ∨ n8 c = 95 ∨ n8 c = 45) → r = true := fun h => by rw [← hr]; exact (letter_iff c).2 h
  have h2 : ¬ ((97 ≤ n8 c ∧ n8 c ≤ 122) ∨ (65 ≤ n8 c ∧ n8 c ≤ 90) ∨ (48 ≤ n8 c ∧ n8 c ≤ 57) ∨ n8 c = 46 ∨ n8 c = 95 ∨ n8 c = 45) → r = false := fun h => by rw [← hr]; exact letter_no h
  replace h1 := Lib.hid h1
  replace h2 := Lib.hid h2
  clear hr
  generalize n8 c = z at *
  go_enter Try.func69, Try.ntmps69
  by_cases c1 : 97 ≤ z ∧ z ≤ 122
  · obtain ⟨a1, a2⟩ := c1
    obtain rfl := h1.out (by omega)
    go_wp2
    go_ret
    exact ⟨rfl, rfl⟩
  · by_cases c2 : 65 ≤ z ∧ z ≤ 90
    · obtain ⟨a1, a2⟩ := c2
      have a3 : ¬ 97 ≤ z := by omega
      obtain rfl := h1.out (by omega)
      clear c1
      go_wp2
      go_ret
      exact ⟨rfl, rfl⟩
    · by_cases c3 : 48 ≤ z ∧ z ≤ 57
      · obtain ⟨a1, a2⟩ := c3
        have a3 : ¬ 97 ≤ z := by omega
        have a4 : ¬ 65 ≤ z := by omega
        obtain rfl := h1.out (by omega)
        clear c1 c2
        go_wp2
        go_ret
        exact ⟨rfl, rfl⟩
      · by_cases c4 : z = 46 ∨ z = 95 ∨ z = 45
        · obtain rfl := h1.out (by omega)
          clear c1 c2 c3 h1 h2
          rcases c4 with rfl | rfl | rfl
          all_goals
            go_wp2
            go_ret
            exact ⟨rfl, rfl⟩
        · obtain rfl := h2.out (by omega)
          have e1 : (z == 46) = false := by simp; omega
          have e2 : (z == 95) = false := by simp; omega
          have e3 : (z == 45) = false := by simp; omega
          rcases (show z < 48 ∨ (57 < z ∧ z < 65) ∨ (90 < z ∧ z < 97) ∨ 122 < z by omega) with h | ⟨h, h'⟩ | ⟨h, h'⟩ | h
          · have b1 : ¬ 97 ≤ z := by omega
            have b2 : ¬ 65 ≤ z := by omega
            have b3 : ¬ 48 ≤ z := by omega
            clear c1 c2 c3 c4 h1 h2 h
            go_wp2
            go_ret
            exact ⟨rfl, rfl⟩
          · have b1 : ¬ 97 ≤ z := by omega
            have b2 : ¬ 65 ≤ z := by omega
            have b3 : 48 ≤ z := by omega
            have b4 : ¬ z ≤ 57 := by omega
            clear c1 c2 c3 c4 h1 h2 h h'
            go_wp2
            go_ret
            exact ⟨rfl, rfl⟩
          · have b1 : ¬ 97 ≤ z := by omega
            have b2 : 65 ≤ z := by omega
            have b3 : 48 ≤ z := by omega
            have b4 : ¬ z ≤ 57 := by omega
            have b5 : ¬ z ≤ 90 := by omega
            clear c1 c2 c3 c4 h1 h2 h h'
            go_wp2
            go_ret
            exact ⟨rfl, rfl⟩
          · have b1 : 97 ≤ z := by omega
            have b2 : 65 ≤ z := by omega
            have b3 : 48 ≤ z := by omega
            have b4 : ¬ z ≤ 57 := by omega
            have b5 : ¬ z ≤ 90 := by omega
            have b6 : ¬ z ≤ 122 := by omega
            clear c1 c2 c3 c4 h1 h2 h
            go_wp2
            go_ret
            exact ⟨rfl, rfl⟩
theorem name_no_len {l : List UInt8} (h : ¬ l.length ≤ 12) : name l = false := by unfold name; rw [decide_eq_false (fun e => h e.2)]; rfl
set_option maxRecDepth 100000 in
set_option maxHeartbeats 2000000 in
theorem name_any (l : List UInt8) (w : World) : Calls Try.prog 62 #[str l] w fun e w' => e = .returned (.bool (name l)) ∧ w = w' := by
  obtain ⟨r, hr⟩ : ∃ r, name l = r := ⟨_, rfl⟩
  rw [hr]
  go_enter Try.func62, Try.ntmps62
  by_cases z1 : l = []
  · obtain rfl : r = false := by rw [← hr, z1]; rfl
    subst z1
    clear hr
    go_wp2
    go_ret
    exact ⟨rfl, rfl⟩
  · have d1 : (l == []) = false := by simpa using z1
    by_cases z2 : 12 < l.length
    · have i2 : (12 : Int) < (l.length : Int) := by omega
      obtain rfl : r = false := by rw [← hr]; exact name_no_len (by omega)
      clear hr z1
      go_wp2
      go_ret
      exact ⟨rfl, rfl⟩
    · have i2 : ¬ (12 : Int) < (l.length : Int) := by omega
      by_cases z3 : l = [46]
      · obtain rfl : r = false := by rw [← hr, z3]; rfl
        subst z3
        clear hr
        go_wp2
        go_ret
        exact ⟨rfl, rfl⟩
      · have d3 : (l == [46]) = false := by simpa using z3
        by_cases z4 : l = [46, 46]
        · obtain rfl : r = false := by rw [← hr, z4]; rfl
          subst z4
          clear hr
          go_wp2
          go_ret
          exact ⟨rfl, rfl⟩
        · have d4 : (l == [46, 46]) = false := by simpa using z4
          have hpos : 0 < l.length := by
            rcases Nat.eq_zero_or_pos l.length with h | h
            · exact absurd (List.eq_nil_of_length_eq_zero h) z1
            · exact h
          have hra : r = l.all letter := by
            rw [← hr]
            unfold name
            rw [decide_eq_true (show 1 ≤ l.length ∧ l.length ≤ 12 by omega), d3, d4]
            simp
          replace hra := Lib.hid hra
          clear hr z1 z3 z4
          go_wp2
          go_loop [3, 21] (fun _ i => ∃ k : Nat, k ≤ l.length ∧ i = .int .i64 (k : Int) ∧ Hid ((l.take k).all letter = true)) (fun _ i => l.length - (intOf i).toNat)
          case atStart => exact ⟨0, by omega, rfl, Lib.hid rfl⟩
          case round =>
            obtain ⟨k, hk, rfl, hq⟩ := hrel
            by_cases hkl : k < l.length
            · have ij : (k : Int) < (l.length : Int) := by omega
              have kw : IntKind.i64.wrap ((k : Int) + 1) = (k : Int) + 1 := IntWalk.i64_in _ (by omega)
              have hsz : k < (⟨l.toArray⟩ : ByteArray).size := by simpa [ByteArray.size] using hkl
              obtain ⟨c, hc⟩ : ∃ c, (⟨l.toArray⟩ : ByteArray)[k]'hsz = c := ⟨_, rfl⟩
              have hcl : l[k] = c := hc
              have hlt := Lib.hid (letter_any c w)
              cases hb : letter c with
              | true =>
                rw [hb] at hlt
                have hnx : Hid ((l.take (k + 1)).all letter = true) := Lib.hid (by rw [all_take hkl, hq.out, hcl, hb]; rfl)
                clear hcl hq
                go_wp2_with fail
                go_at_call 69
                refine hlt.out.mono ?_
                rintro e w' ⟨rfl, rfl⟩
                go_wp2
                exact ⟨⟨k + 1, by omega, by go_num, hnx⟩, by simp [intOf]; omega⟩
              | false =>
                rw [hb] at hlt
                obtain rfl : r = false := by rw [hra.out]; exact all_bad hkl (by rw [hcl]; exact hb)
                clear hcl hq hra
                go_wp2_with fail
                go_at_call 69
                refine hlt.out.mono ?_
                rintro e w' ⟨rfl, rfl⟩
                go_wp2
                go_ret
                exact ⟨rfl, rfl⟩
            · obtain rfl : k = l.length := by omega
              rw [List.take_length] at hq
              obtain rfl : r = true := by rw [hra.out]; exact hq.out
              clear hq hra
              go_wp2
              go_ret
              exact ⟨rfl, rfl⟩
end Pth
end Go.Proofs.Yteadcblmomngpaa
namespace Go.Proofs.Yteadcblmomngpaa
open Go Go.RowKit Go.Shelf W
attribute [local go_sem] Oper.semAt_some
namespace Pth
def leftS (b : Nat) (w : World) : Nat := match w.cell? ⟨b, 0, none⟩ with | some (.string s) => s.size | _ => 0
theorem leftS_eq {b : Nat} {w : World} {t : TypeId} {q : List UInt8} (h : Blk w b t #[str q]) : leftS b w = q.length := by
  unfold leftS
  rw [h.cell 0]
  simp [ByteArray.size]
set_option maxRecDepth 100000 in
set_option maxHeartbeats 4000000 in
theorem cut1_in (m : Nat) (hm : 1 ≤ m) (l b : Nat) (p : List UInt8) (hp : p ≠ []) (hl : p.length ≤ 1000000) (Kp : World → World → Prop)
    (kb : ∀ {A B : World} {v : Value}, Kp A B → Blk A b 9 #[v] → Blk B b 9 #[v])
    (J Jx : List (List UInt8) → World → Prop) (W : World) (hJ : Bears b J)
    (hY : ∀ pre x W1, J pre W1 → pre.length < (splitC p).length → YieldAt Fence.wide (m - 1) Try.prog l #[str x] W1 fun e W' =>
      (e = .returned (.bool true) ∧ J (pre ++ [x]) W' ∧ Kp W1 W') ∨ (e = .returned (.bool false) ∧ Jx (pre ++ [x]) W'))
    (b0 : Blk W b 9 #[str p]) (hJ0 : J [] W) :
    CallsIn Fence.wide m Try.prog 67 #[.func (.yield l) #[] #[], .pointer (some ⟨b, 0, none⟩)] W fun e W' => (∃ v, e = .returned v) ∧
      ((∃ ys, ys = cut p ∧ J ys W') ∨ (∃ pre, (∃ r, pre ++ r = cut p) ∧ Jx pre W')) := by
  have hYh := Lib.hid hY
  have hJh := Lib.hid hJ
  have c0 := b0.cell 0
  have hcu : cut p = splitC p := if_neg hp
  rw [hcu]
  have hpb : (p == []) = false := by simpa using hp
  obtain ⟨Z, hZ⟩ : ∃ Z, splitC p = Z := ⟨_, rfl⟩
  rw [hZ] at hYh ⊢
  have hix := Lib.hid (fun q w => index_any q 47 w)
  replace hZ := Lib.hid hZ
  clear hY hJ hcu hp
  refine callsIn_of_wp Try.func67 rfl trivial ?_ rfl
  simp only [Try.ntmps67, List.size_toArray, List.length_cons, List.length_nil, Nat.reduceAdd, Nat.reduceSub, Array.replicate_succ, Array.replicate_zero, List.push_toArray, List.append_toArray, List.nil_append, List.cons_append]
  gi_wp2
  gi_loopw [3] (fun _ wr => ∃ (o : List (List UInt8)) (q : List UInt8), q.length ≤ 1000000 ∧ Hid (Z = o ++ splitC q) ∧ Blk wr b 9 #[str q] ∧ J o wr)
    (fun _ wr => leftS b wr)
  case atStart => exact ⟨[], p, hl, Lib.hid (by rw [hZ.out]; rfl), b0, hJ0⟩
  case round =>
    clear b0 hJ0 c0 hpb hZ
    obtain ⟨o, q, hq, hz, b1, hJs⟩ := hrel
    have hlw := leftS_eq b1
    have c1 := b1.cell 0
    have hf := firstAt q 47
    obtain ⟨z, hzz⟩ : ∃ z, Lib.indexByte q 47 = z := ⟨_, rfl⟩
    rw [hzz] at hf
    have hbk := Lib.hid (fun w' (h : Kp wr w') => kb h b1)
    have hsp := splitC_pos q
    have hol : o.length < Z.length := by
      obtain ⟨a, t, e⟩ := hsp
      rw [hz.out, e, List.length_append, List.length_cons]
      omega
    have hid := Lib.hid (hix.out q wr)
    rw [hzz] at hid
    rcases hf with ⟨rfl, hno⟩ | ⟨a, r, rfl, hno, rfl⟩
    · have hend : Z = o ++ [q] := by rw [hz.out, splitC_none hno]
      replace hend := Lib.hid hend
      obtain ⟨fn, tmps, assign, body, hy, hR⟩ := hYh.out _ q wr hJs hol
      have hR := Lib.hid hR
      clear hno hzz hbk hsp hz hix
      gi_wp2_with fail
      refine ⟨trivial, ?_⟩
      gi_at_call 68
      refine (callsIn_wide.2 hid.out).mono ?_
      rintro e W2 ⟨rfl, rfl⟩
      clear hid
      gi_wp2
      refine hR.out.mono ?_
      rintro e W3 (⟨rfl, hJ3, hk3⟩ | ⟨rfl, hJx3⟩)
      · gi_wp2
        refine bodyPost_ret (results_none rfl _ _ _) rfl ?_
        exact ⟨⟨_, rfl⟩, .inl ⟨_, hend.out.symm, hJ3⟩⟩
      · gi_wp2
        refine bodyPost_ret (results_none rfl _ _ _) rfl ?_
        exact ⟨⟨_, rfl⟩, .inr ⟨_, ⟨[], by rw [hend.out, List.append_nil]⟩, hJx3⟩⟩
    · have hzn : Z = (o ++ [a]) ++ splitC r := by rw [hz.out, splitC_some a r hno, List.append_assoc]; rfl
      replace hzn := Lib.hid hzn
      obtain ⟨fn, tmps, assign, body, hy, hR⟩ := hYh.out _ a wr hJs hol
      have hR := Lib.hid hR
      have hal : a.length < (a ++ 47 :: r).length := by simp
      rw [List.length_append, List.length_cons] at hq
      have kw : IntKind.i64.wrap ((a.length : Int) + 1) = ((a.length + 1 : Nat) : Int) := by rw [IntKind.wrap_i64]; omega
      have ha0 : ¬ ((a.length : Nat) : Int) < 0 := by omega
      have htk : (a ++ 47 :: r).take a.length = a := List.take_left' rfl
      have hdr : (a ++ 47 :: r).drop (a.length + 1) = r := by rw [List.drop_append, List.drop_of_length_le (by omega), Nat.add_sub_cancel_left]; rfl
      have hrl : r.length < leftS b wr := by rw [hlw, List.length_append, List.length_cons]; omega
      clear hno hzz hsp hz hix
      gi_wp2_with fail
      refine ⟨trivial, ?_⟩
      gi_at_call 68
      refine (callsIn_wide.2 hid.out).mono ?_
      rintro e W2 ⟨rfl, rfl⟩
      clear hid
      gi_wp2
      refine hR.out.mono ?_
      rintro e W3 (⟨rfl, hJ3, hk3⟩ | ⟨rfl, hJx3⟩)
      · have b3 := hbk.out W3 hk3
        have c3 := b3.cell 0
        have f3 := b3.frozen 0
        have hll : ((a.length + 1 : Nat) : Int) ≤ ((a ++ 47 :: r).length : Int) := by simp; omega
        gi_wp2
        rw [show List.take (a.length + (r.length + 1) - (a.length + 1)) r = r from List.take_of_length_le (by omega)]
        have b4 : Blk (W3.setCell ⟨b, 0, none⟩ (str r)) b 9 #[str r] := b3.set_ 0 _
        refine ⟨⟨o ++ [a], r, by omega, hzn, b4, hJh.out _ _ _ hJ3 ((Kb.refl _ _).set 0 _)⟩, ?_⟩
        show leftS b (W3.setCell ⟨b, 0, none⟩ (str r)) < _
        rw [leftS_eq b4]
        exact hrl
      · gi_wp2
        refine bodyPost_ret (results_none rfl _ _ _) rfl ?_
        exact ⟨⟨_, rfl⟩, .inr ⟨_, ⟨splitC r, hzn.out.symm⟩, hJx3⟩⟩
set_option maxRecDepth 100000 in
set_option maxHeartbeats 1000000 in
theorem cut1_nil (m : Nat) (l b : Nat) (P : World → Prop) (W : World) (cb : W.cell? ⟨b, 0, none⟩ = some (str [])) (h0 : P W) :
    CallsIn Fence.wide m Try.prog 67 #[.func (.yield l) #[] #[], .pointer (some ⟨b, 0, none⟩)] W fun e W' => (∃ v, e = .returned v) ∧ P W' := by
  refine callsIn_of_wp Try.func67 rfl trivial ?_ rfl
  simp only [Try.ntmps67, List.size_toArray, List.length_cons, List.length_nil, Nat.reduceAdd, Nat.reduceSub, Array.replicate_succ, Array.replicate_zero, List.push_toArray, List.append_toArray, List.nil_append, List.cons_append]
  gi_wp2
  refine bodyPost_ret (results_none rfl _ _ _) rfl ?_
  exact ⟨⟨_, rfl⟩, h0⟩
/-- The iterator's contract. -/
theorem cut_seq (m : Nat) (hm : 1 ≤ m) (b : Nat) (p : List UInt8) (hl : p.length ≤ 1000000) (Kp : World → World → Prop)
    (kb : ∀ {A B : World} {v : Value}, Kp A B → Blk A b 9 #[v] → Blk B b 9 #[v]) (W : World) (b0 : Blk W b 9 #[str p]) :
    SeqB Fence.wide m Try.prog 67 #[.pointer (some ⟨b, 0, none⟩)] (fun x : List UInt8 => #[str x]) b Kp (fun ys => ys = cut p) (fun pre => ∃ r, pre ++ r = cut p) (splitC p).length W := fun lp J Jx hJ _ hY h0 => by
  by_cases hp : p = []
  · subst hp
    refine (cut1_nil m lp b (J []) W (b0.cell 0) h0).mono ?_
    rintro e W' ⟨he, hj⟩
    exact ⟨he, .inl ⟨_, rfl, hj⟩⟩
  · exact cut1_in m hm lp b p hp hl Kp kb J Jx W hJ hY b0 h0
set_option maxRecDepth 100000 in
set_option maxHeartbeats 1000000 in
/-- paths.cut: a box; the function value captures it. -/
theorem cut_any (p : List UInt8) (n : Nat) (w : World) (hn : w.heap.size = n) :
    Calls Try.prog 61 #[str p] w fun e w' =>
      e = .returned (.func (.func 67) #[] #[.pointer (some ⟨n, 0, none⟩)]) ∧ Blk w' n 9 #[str p] ∧ Gr w w' ∧ w'.heap.size = n + 1 := by
  subst hn
  have hmf : ∀ (fn : Fn) (first cap : Array Value) (w : World), (Instr.makeFunc fn first cap).run Try.prog w = .ok (.func fn first cap) w := fun _ _ _ _ => rfl
  have h1 := Lib.hid (Blk.new w 9 #[str p])
  go_enter Try.func61, Try.ntmps61
  go_wp2
  go_ret
  exact ⟨rfl, h1.out, (Gr.refl w).alloc _, by simp⟩
end Pth
end Go.Proofs.Yteadcblmomngpaa
