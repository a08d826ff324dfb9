/- The walks of a link's calls. No condition but sizes. -/
import Derived.Test.YtpkbdodclkgjpaaLnkPut
set_option linter.unusedVariables false
set_option linter.unusedSimpArgs false
namespace Go.Proofs.Ytpkbdodclkgjpaa
open Go Go.RowKit Go.Shelf W
namespace Ln
theorem byteRow : RowType Try.prog 5 1 1 := by
  obtain ⟨i, h1, h2, h3, h4⟩ := info_parts (show (Try.prog.info? 5).map (fun i => (i.zero, i.size, i.bytes)) = some (some (.int .u8 0), 1, 1) by kernel_rfl)
  exact ⟨i, _, h1, h2, h3, h4, rfl, by omega⟩
theorem wpList_append_empty {P : Program} {E : TypeId} {size base g : Nat} {w : World} {ops : Array Oper} {rest : List Oper} {o : Oper} {a : Act} {Q : Exit → Act → World → Prop} (hgd : o.guard = none) (s x : Operand) (T : TypeId)
    (ho : o.op = .call { callee := .builtin .append, args := #[s, x], argTypes := #[T, T] }) {bytes : Nat} (ht : P.underlying T = some (.slice E)) (hE : RowType P E size bytes) (hs : a.eval s = .slice (some ⟨g, 0, none⟩) 0 0) (hown : OR E size w base (.slice (some ⟨g, 0, none⟩) 0 0) 0 [])
    (B : Nat) (A : Option Addr) (m c : Nat) (news : List Value) (hx : a.eval x = .slice A m c) (hr : Reads w B size A m news) (h1 : ∀ u ∈ news, u.oneCell' = true) (hlen : m ≤ maxLen) (hby : m * bytes ≤ 140737488355328) (hbase : base ≤ w.heap.size)
    (h : ∀ A' c' w', OR E size w' base (.slice A' m c') m news → Gr w w' → wpList P ops Q rest (a.put o.dst (.slice A' m c')) w') : wpList P ops Q (o :: rest) a w :=
  wpList_wanted (by simp [Region.wanted, hgd]) fun _ hK => by
    obtain ⟨A', c', w', hrun, h2, h3⟩ := run_append_empty (P := P) T o.type ht hE hown B A m c news hr h1 hlen hby hbase
    unfold Oper.wp execOp
    simp only [ho, resolve, invoke, builtin, Sem.run_bind, Sem.run_pure, Result.andThen_ok, List.map_toArray, List.map_cons, List.map_nil, hs, hx, hrun]
    exact hK _ _ (h A' c' w' h2 h3)
theorem at_k (g k : Nat) (hk : k < 2) (w : World) : Calls Try.prog 19 #[.pointer (some ⟨g, 0, none⟩), .int .i64 (k : Int)] w fun e w' => e = .returned (.pointer (some ⟨g, 3 * k, none⟩)) ∧ w' = w := by
  rcases (show k = 0 ∨ k = 1 by omega) with rfl | rfl
  · exact at_zero g w
  · exact at_one g w
/-- There is no such way. -/
def NoWay (p : Value) (x : Int) : Prop := ∀ w : World, Calls Try.prog 19 #[p, .int .i64 x] w fun e w' => e = .returned (.pointer none) ∧ w' = w
theorem noWay_nil (x : Int) : NoWay (.pointer none) x := fun w => at_nil x w
theorem noWay_out (g : Nat) (x : Int) (h : x < 0 ∨ 2 ≤ x) : NoWay (.pointer (some ⟨g, 0, none⟩)) x := fun w => at_out g x w h
theorem len_none (p : Value) (x : Int) (h : NoWay p x) (w : World) : Calls Try.prog 9 #[p, .int .i64 x] w fun e w' => e = .returned (.int .i64 0) ∧ w' = w := by
  replace h := Lib.hid (h w)
  go_enter Try.func9, Try.ntmps9
  go_wp2_with fail
  refine h.out.mono ?_
  rintro e w' ⟨rfl, rfl⟩
  go_wp2
  go_ret
  exact ⟨rfl, rfl⟩
theorem sent_none (p : Value) (x : Int) (h : NoWay p x) (w : World) : Calls Try.prog 12 #[p, .int .i64 x] w fun e w' => e = .returned (.int .i64 0) ∧ w' = w := by
  replace h := Lib.hid (h w)
  go_enter Try.func12, Try.ntmps12
  go_wp2_with fail
  refine h.out.mono ?_
  rintro e w' ⟨rfl, rfl⟩
  go_wp2
  go_ret
  exact ⟨rfl, rfl⟩
theorem lost_none (p : Value) (x : Int) (h : NoWay p x) (w : World) : Calls Try.prog 13 #[p, .int .i64 x] w fun e w' => e = .returned (.int .i64 0) ∧ w' = w := by
  replace h := Lib.hid (h w)
  go_enter Try.func13, Try.ntmps13
  go_wp2_with fail
  refine h.out.mono ?_
  rintro e w' ⟨rfl, rfl⟩
  go_wp2
  go_ret
  exact ⟨rfl, rfl⟩
theorem send_none (p b : Value) (x : Int) (h : NoWay p x) (w : World) : Calls Try.prog 14 #[p, .int .i64 x, b] w fun e w' => e = .returned (.tuple #[]) ∧ w' = w := by
  replace h := Lib.hid (h w)
  go_enter Try.func14, Try.ntmps14
  go_wp2_with fail
  refine h.out.mono ?_
  rintro e w' ⟨rfl, rfl⟩
  go_wp2
  go_end0
  exact ⟨rfl, rfl⟩
/-- There is no such packet. -/
def NoPk (p : Value) (x i : Int) (w : World) : Prop := ∃ q : Value, (Calls Try.prog 19 #[p, .int .i64 x] w fun e w' => e = .returned q ∧ w' = w) ∧ (Calls Try.prog 23 #[q, .int .i64 i] w fun e w' => e = .returned (.bool false) ∧ w' = w)
theorem noPk_way {p : Value} {x : Int} (h : NoWay p x) (i : Int) (w : World) : NoPk p x i w := ⟨_, h w, has_nil i w⟩
theorem has_way (g o : Nat) (cs : Array Value) (v : Value) (rows : List (Value × Value)) (a : Way) (i : Int) (w : World) (hb : Blk w g 54 cs) (hy : Wy w g o cs v rows a) :
    Calls Try.prog 23 #[.pointer (some ⟨g, o, none⟩), .int .i64 i] w fun e w' => e = .returned (.bool (decide (0 ≤ i ∧ i < (a.l.length : Int)))) ∧ w' = w := by
  obtain ⟨A, c, rfl⟩ := hy.sh
  rw [← hy.pr.len]
  exact has_any g o rows.length c A i w (by rw [hb.cell, hy.c0])
theorem noPk_out {w : World} {g : Nat} {a b : Way} (h : Lk w g a b) (k : Nat) (hk : k < 2) (i : Int) (hi : ¬ (0 ≤ i ∧ i < ((sel k a b).l.length : Int))) : NoPk (.pointer (some ⟨g, 0, none⟩)) (k : Int) i w := by
  obtain ⟨cs, v, rows, hb, hy, _⟩ := h.open_ k hk
  have := has_way g (3 * k) cs v rows _ i w hb hy
  rw [decide_eq_false hi] at this
  exact ⟨_, at_k g k hk w, this⟩
theorem deliver_none (p : Value) (x i : Int) (w : World) (h : NoPk p x i w) : Calls Try.prog 15 #[p, .int .i64 x, .int .i64 i] w fun e w' => e = .returned (.tuple #[.slice none 0 0, .bool false]) ∧ w' = w := by
  obtain ⟨q, h1, h2⟩ := h
  replace h1 := Lib.hid h1
  replace h2 := Lib.hid h2
  go_enter Try.func15, Try.ntmps15
  go_wp2_with fail
  refine h1.out.mono ?_
  rintro e w' ⟨rfl, rfl⟩
  go_wp2_with fail
  refine h2.out.mono ?_
  rintro e w' ⟨rfl, rfl⟩
  go_wp2
  go_ret2
  exact ⟨rfl, rfl⟩
theorem drop_none (p : Value) (x i : Int) (w : World) (h : NoPk p x i w) : Calls Try.prog 16 #[p, .int .i64 x, .int .i64 i] w fun e w' => e = .returned (.bool false) ∧ w' = w := by
  obtain ⟨q, h1, h2⟩ := h
  replace h1 := Lib.hid h1
  replace h2 := Lib.hid h2
  go_enter Try.func16, Try.ntmps16
  go_wp2_with fail
  refine h1.out.mono ?_
  rintro e w' ⟨rfl, rfl⟩
  go_wp2_with fail
  refine h2.out.mono ?_
  rintro e w' ⟨rfl, rfl⟩
  go_wp2
  go_ret
  exact ⟨rfl, rfl⟩
theorem double_none (p : Value) (x i : Int) (w : World) (h : NoPk p x i w) : Calls Try.prog 17 #[p, .int .i64 x, .int .i64 i] w fun e w' => e = .returned (.bool false) ∧ w' = w := by
  obtain ⟨q, h1, h2⟩ := h
  replace h1 := Lib.hid h1
  replace h2 := Lib.hid h2
  go_enter Try.func17, Try.ntmps17
  go_wp2_with fail
  refine h1.out.mono ?_
  rintro e w' ⟨rfl, rfl⟩
  go_wp2_with fail
  refine h2.out.mono ?_
  rintro e w' ⟨rfl, rfl⟩
  go_wp2
  go_ret
  exact ⟨rfl, rfl⟩
theorem turn_none (p : Value) (x i at_ : Int) (m : UInt32) (w : World) (h : NoPk p x i w) : Calls Try.prog 18 #[p, .int .i64 x, .int .i64 i, .int .i64 at_, .int .u32 (n32 m)] w fun e w' => e = .returned (.bool false) ∧ w' = w := by
  obtain ⟨q, h1, h2⟩ := h
  replace h1 := Lib.hid h1
  replace h2 := Lib.hid h2
  go_enter Try.func18, Try.ntmps18
  go_wp2_with fail
  refine h1.out.mono ?_
  rintro e w' ⟨rfl, rfl⟩
  go_wp2_with fail
  refine h2.out.mono ?_
  rintro e w' ⟨rfl, rfl⟩
  go_wp2
  go_ret
  exact ⟨rfl, rfl⟩
/-! ### a way that is there -/
theorem len_k {g k : Nat} (hk : k < 2) {a b : Way} (w : World) (h : Lk w g a b) : Calls Try.prog 9 #[.pointer (some ⟨g, 0, none⟩), .int .i64 (k : Int)] w fun e w' => e = .returned (.int .i64 ((sel k a b).l.length : Int)) ∧ w' = w := by
  obtain ⟨cs, v, rows, hb, hy, _⟩ := h.open_ k hk
  obtain ⟨A, c, rfl⟩ := hy.sh
  rw [← hy.pr.len]
  have c0 : w.cell? ⟨g, 3 * k, none⟩ = some (.slice A rows.length c) := by rw [hb.cell, hy.c0]
  have ha := Lib.hid (at_k g k hk w)
  clear hb hy
  go_enter Try.func9, Try.ntmps9
  go_wp2_with fail
  refine ha.out.mono ?_
  rintro e w' ⟨rfl, rfl⟩
  go_wp2
  go_ret
  exact ⟨rfl, rfl⟩
theorem sent_k {g k : Nat} (hk : k < 2) {a b : Way} (w : World) (h : Lk w g a b) : Calls Try.prog 12 #[.pointer (some ⟨g, 0, none⟩), .int .i64 (k : Int)] w fun e w' => e = .returned (.int .i64 ((sel k a b).s : Int)) ∧ w' = w := by
  obtain ⟨cs, v, rows, hb, hy, _⟩ := h.open_ k hk
  have c0 : w.cell? ⟨g, 3 * k + 1, none⟩ = some (.int .i64 ((sel k a b).s : Int)) := by rw [hb.cell, hy.c1]
  have ha := Lib.hid (at_k g k hk w)
  clear hb hy
  go_enter Try.func12, Try.ntmps12
  go_wp2_with fail
  refine ha.out.mono ?_
  rintro e w' ⟨rfl, rfl⟩
  go_wp2
  go_ret
  exact ⟨rfl, rfl⟩
theorem lost_k {g k : Nat} (hk : k < 2) {a b : Way} (w : World) (h : Lk w g a b) : Calls Try.prog 13 #[.pointer (some ⟨g, 0, none⟩), .int .i64 (k : Int)] w fun e w' => e = .returned (.int .i64 ((sel k a b).x : Int)) ∧ w' = w := by
  obtain ⟨cs, v, rows, hb, hy, _⟩ := h.open_ k hk
  have c0 : w.cell? ⟨g, 3 * k + 2, none⟩ = some (.int .i64 ((sel k a b).x : Int)) := by rw [hb.cell, hy.c2]
  have ha := Lib.hid (at_k g k hk w)
  clear hb hy
  go_enter Try.func13, Try.ntmps13
  go_wp2_with fail
  refine ha.out.mono ?_
  rintro e w' ⟨rfl, rfl⟩
  go_wp2
  go_ret
  exact ⟨rfl, rfl⟩
end Ln
end Go.Proofs.Ytpkbdodclkgjpaa

