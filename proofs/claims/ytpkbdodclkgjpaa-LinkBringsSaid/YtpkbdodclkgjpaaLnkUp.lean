/- A link: one way changes, the other stays. No condition. -/
import Derived.Test.YtpkbdodclkgjpaaLnkTake
set_option linter.unusedVariables false
set_option linter.unusedSimpArgs false
namespace Go.Proofs.Ytpkbdodclkgjpaa
open Go Go.RowKit Go.Shelf W
namespace Ln
/-- append, with all that is kept. -/
theorem step_append_full {P : Program} {E : TypeId} {size base n : Nat} {v : Value} {xs : List Value} {w : World} {ops : Array Oper} {o : Oper} {a : Act} {K : Act → World → Prop} {Q : Exit → Act → World → Prop} {E' : Prop} (hgd : o.guard = none) (s x : Operand) (T : TypeId)
    (ho : o.op = .call { callee := .builtin .append, args := #[s, x], argTypes := #[T, T] }) {bytes : Nat} (ht : P.underlying T = some (.slice E)) (hE : RowType P E size bytes) (hs : a.eval s = v) (hown : OR E size w base v n xs)
    (B : Nat) (A : Option Addr) (m c : Nat) (news : List Value) (hx : a.eval x = .slice A m c) (hr : Reads w B size A m news) (h1 : ∀ u ∈ news, u.oneCell' = true) (hlen : n + m ≤ maxLen) (hby : (n + m) * bytes ≤ 140737488355328) (hbase : base ≤ w.heap.size)
    (L : List Value) (hL : L = xs ++ news) (k : Nat) (hk : k = n + m) (h : ∀ A' c' w', OR E size w' base (.slice A' k c') k L → w.grownBy w' v.ownBlock → ((Value.slice A' k c').ownBlock = v.ownBlock ∨ (Value.slice A' k c').ownBlock = some w.heap.size) → K (a.put o.dst (.slice A' k c')) w') :
    if Region.wanted o (yielded ops a.tmps) = true then Oper.wp P o a w K Q else E' := by
  subst hL
  subst hk
  have hw : Region.wanted o (yielded ops a.tmps) = true := by simp [Region.wanted, hgd]
  rw [if_pos hw]
  obtain ⟨A', c', w', hrun, h2, _, h3, h4⟩ := run_append_rows (P := P) T o.type ht hE hown B A m c news hr h1 hlen hby hbase
  unfold Oper.wp execOp
  simp only [ho, resolve, invoke, builtin, Sem.run_bind, Sem.run_pure, Result.andThen_ok, List.map_toArray, List.map_cons, List.map_nil, hs, hx, hrun]
  exact h A' c' w' h2 h3 h4
/-- A way, in the cells of its link from place o on. -/
structure Wy (w : World) (g o : Nat) (cs : Array Value) (v : Value) (rows : List (Value × Value)) (a : Way) : Prop where
  c0 : cs[o]? = some v
  c1 : cs[o + 1]? = some (.int .i64 (a.s : Int))
  c2 : cs[o + 2]? = some (.int .i64 (a.x : Int))
  sh : ∃ A c, v = .slice A rows.length c
  os : OP w (g + 1) v rows
  pr : PR w rows a.l
/-- One way's cells change, and its rows. -/
structure UpE (w w' : World) (g o : Nat) (v : Value) (cs cs' : Array Value) (v' : Value) : Prop where
  far : ∀ j, j < o ∨ o + 3 ≤ j → cs'[j]? = cs[j]?
  k2 : K2 g v.ownBlock w w'
  own : ∀ n, v'.ownBlock = some n → v.ownBlock = some n ∨ w.heap.size ≤ n
theorem UpE.refl (w : World) (g o : Nat) (v : Value) (cs : Array Value) : UpE w w g o v cs cs v := ⟨fun _ _ => rfl, K2.refl _ _ _, fun _ h => .inl h⟩
theorem UpE.trans {a b c : World} {g o : Nat} {v v1 v2 : Value} {cs cs1 cs2 : Array Value} (h : UpE a b g o v cs cs1 v1) (k : UpE b c g o v1 cs1 cs2 v2) : UpE a c g o v cs cs2 v2 := by
  refine ⟨fun j hj => (k.far j hj).trans (h.far j hj), h.k2.trans k.k2 (fun n hn => ?_), fun n hn => ?_⟩
  · rcases h.own n hn with h1 | h1
    · exact .inl h1.symm
    · exact .inr h1
  · rcases k.own n hn with h1 | h1
    · exact h.own n h1
    · exact .inr (Nat.le_trans h.k2.size h1)
theorem UpE.gr {a b c : World} {g o : Nat} {v v1 : Value} {cs cs1 : Array Value} (h : UpE a b g o v cs cs1 v1) (k : Gr b c) : UpE a c g o v cs cs1 v1 := ⟨h.far, h.k2.gr k, h.own⟩
theorem UpE.store {a b : World} {g o : Nat} {v v1 : Value} {cs cs1 : Array Value} (h : UpE a b g o v cs cs1 v1) (i : Nat) (h1 : o ≤ i) (h2 : i < o + 3) (u v2 : Value) (hv : ∀ n, v2.ownBlock = some n → v.ownBlock = some n ∨ a.heap.size ≤ n) : UpE a (b.setCell ⟨g, i, none⟩ u) g o v cs (cs1.setIfInBounds i u) v2 := by
  refine ⟨fun j hj => ?_, h.k2.kb ((Kb.refl g b).set i u) (.inl rfl), hv⟩
  rw [Array.getElem?_setIfInBounds_ne (by omega)]
  exact h.far j hj
theorem wy_at {cs : Array Value} {i : Nat} {u u' : Value} (h : cs[i]? = some u) : (cs.setIfInBounds i u')[i]? = some u' := by
  have hi : i < cs.size := by
    rcases Nat.lt_or_ge i cs.size with h1 | h1
    · exact h1
    · rw [Array.getElem?_eq_none h1] at h; cases h
  rw [Array.getElem?_setIfInBounds_self_of_lt hi]
theorem wy_ne {cs : Array Value} {i j : Nat} {u u' : Value} (h : cs[j]? = some u) (hne : i ≠ j) : (cs.setIfInBounds i u')[j]? = some u := by
  rw [Array.getElem?_setIfInBounds_ne hne]
  exact h
theorem Wy.gr {a b : World} {g o : Nat} {cs : Array Value} {v : Value} {rows : List (Value × Value)} {y : Way} (h : Wy a g o cs v rows y) (k : Gr a b) : Wy b g o cs v rows y :=
  ⟨h.c0, h.c1, h.c2, h.sh, OR.below h.os k, h.pr.ku (KU.of_gr k)⟩
/-- All blocks but a link's lie as they lay. -/
structure KT (w w' : World) : Prop where
  os : w'.os = w.os
  tape : w'.tape = w.tape
  output : w'.output = w.output
  size : w.heap.size ≤ w'.heap.size
  block : ∀ (k : Nat) (o : Obj), w.heap[k]? = some o → (∀ cs fr, o ≠ .cells cs 54 fr ∧ o ≠ .cells cs 63 fr) → w'.heap[k]? = some o
theorem KT.refl (w : World) : KT w w := ⟨rfl, rfl, rfl, Nat.le_refl _, fun _ _ h _ => h⟩
theorem KT.trans {a b c : World} (h : KT a b) (k : KT b c) : KT a c := ⟨k.os.trans h.os, k.tape.trans h.tape, k.output.trans h.output, Nat.le_trans h.size k.size, fun i o h1 h2 => k.block i o (h.block i o h1 h2) h2⟩
theorem KT.of_gr {a b : World} (h : Gr a b) : KT a b := ⟨h.os, h.tape, h.output, h.size, fun k o h1 _ => (h.block k (lt_of_heap h1)).trans h1⟩
theorem KT.of_k2 {g : Nat} {r : Option Nat} {a b : World} {cs : Array Value} (k : K2 g r a b) (hb : Blk a g 54 cs) (hr : ∀ n, r = some n → ∃ cs fr, a.heap[n]? = some (.cells cs 63 fr)) : KT a b :=
  ⟨k.os, k.tape, k.output, k.size, fun i o hi ho => (k.block i (lt_of_heap hi) (fun e => by
    subst e
    have hb' : a.heap[i]? = some (.cells cs 54 (0, 0)) := hb
    rw [hb'] at hi
    injection hi with hi
    exact (ho cs (0, 0)).1 hi.symm) (fun e => by
    obtain ⟨c2, f2, h2⟩ := hr i e.symm
    rw [h2] at hi
    injection hi with hi
    exact (ho c2 f2).2 hi.symm)).trans hi⟩
theorem KT.ku {a b : World} (h : KT a b) : KU a b := ⟨h.size, fun k cs fr hk => h.block k _ hk (fun c f => ⟨fun e => by injection e with _ e _; exact absurd e (by decide), fun e => by injection e with _ e _; exact absurd e (by decide)⟩)⟩
theorem KT.blk {a b : World} (h : KT a b) {i : Nat} {t : TypeId} {cs : Array Value} (hb : Blk a i t cs) (h1 : t ≠ 54) (h2 : t ≠ 63) : Blk b i t cs :=
  h.block i _ hb (fun c f => ⟨fun e => by injection e with _ e _; exact h1 e, fun e => by injection e with _ e _; exact h2 e⟩)
/-- A link: its cells, its ways. -/
def Lk (w : World) (g : Nat) (a b : Way) : Prop := ∃ cs v0 r0 v1 r1, Blk w g 54 cs ∧ Wy w g 0 cs v0 r0 a ∧ Wy w g 3 cs v1 r1 b ∧ ∀ n, v0.ownBlock = some n → v1.ownBlock ≠ some n
theorem Wy.stay {w w' : World} {g o p : Nat} {cs cs' : Array Value} {v v1 v2 : Value} {rows : List (Value × Value)} {b : Way} (h : Wy w g p cs v1 rows b) (hb : Blk w g 54 cs) (ht : ∀ n, v.ownBlock = some n → ∃ cs fr, w.heap[n]? = some (.cells cs 63 fr))
    (u : UpE w w' g o v cs cs' v2) (hp : p + 3 ≤ o ∨ o + 3 ≤ p) (hd : ∀ n, v.ownBlock = some n → v1.ownBlock ≠ some n) : Wy w' g p cs' v1 rows b := by
  refine ⟨(u.far p (by omega)).trans h.c0, (u.far (p + 1) (by omega)).trans h.c1, (u.far (p + 2) (by omega)).trans h.c2, h.sh, op_k2 h.os u.k2 (by omega) ?_, h.pr.ku (ku_of_k2 u.k2 hb ht)⟩
  cases e : v1.ownBlock with
  | none => exact .inl rfl
  | some n => exact .inr (fun e2 => hd n e2.symm e)
theorem own_lt {w : World} {base : Nat} {v : Value} {rows : List (Value × Value)} (h : OP w base v rows) {n : Nat} (hn : v.ownBlock = some n) : n < w.heap.size := (World.ownsRow.lt h n hn).2
def sel (k : Nat) (a b : Way) : Way := if k = 0 then a else b
def setA (k : Nat) (y a : Way) : Way := if k = 0 then y else a
def setB (k : Nat) (y b : Way) : Way := if k = 0 then b else y
/-- One way of a link, and what a change of it leaves. -/
theorem Lk.open_ {w : World} {g : Nat} {a b : Way} (h : Lk w g a b) (k : Nat) (hk : k < 2) : ∃ cs v rows, Blk w g 54 cs ∧ Wy w g (3 * k) cs v rows (sel k a b) ∧
    ∀ w' cs' v' rows' y, Blk w' g 54 cs' → Wy w' g (3 * k) cs' v' rows' y → UpE w w' g (3 * k) v cs cs' v' → Lk w' g (setA k y a) (setB k y b) ∧ KT w w' ∧ Below g w w' := by
  obtain ⟨cs, v0, r0, v1, r1, hb, h0, h1, hd⟩ := h
  have hlt := hb.lt
  rcases (show k = 0 ∨ k = 1 by omega) with rfl | rfl
  · refine ⟨cs, v0, r0, hb, h0, fun w' cs' v' rows' y hb' hy u => ⟨⟨cs', v', rows', v1, r1, hb', hy, h1.stay hb (op_typ h0.os) u (by omega) hd, fun n hn => ?_⟩, KT.of_k2 u.k2 hb (op_typ h0.os), K2.below u.k2 (by omega) (Nat.le_refl _) (fun n hn => Nat.le_of_lt (World.ownsRow.lt h0.os n hn).1)⟩⟩
    rcases u.own n hn with h2 | h2
    · exact hd n h2
    · exact fun e => absurd (own_lt h1.os e) (by omega)
  · refine ⟨cs, v1, r1, hb, h1, fun w' cs' v' rows' y hb' hy u => ⟨⟨cs', v0, r0, v', rows', hb', h0.stay hb (op_typ h1.os) u (by omega) (fun n h2 h3 => hd n h3 h2), hy, fun n hn e => ?_⟩, KT.of_k2 u.k2 hb (op_typ h1.os), K2.below u.k2 (by omega) (Nat.le_refl _) (fun n hn => Nat.le_of_lt (World.ownsRow.lt h1.os n hn).1)⟩⟩
    rcases u.own n e with h2 | h2
    · exact hd n hn h2
    · exact absurd (own_lt h0.os hn) (by omega)
/-- A link stays where its blocks and all bytes do. -/
theorem Lk.gr {w w' : World} {g : Nat} {a b : Way} (h : Lk w g a b) (k : Gr w w') : Lk w' g a b := by
  obtain ⟨cs, v0, r0, v1, r1, hb, h0, h1, hd⟩ := h
  exact ⟨cs, v0, r0, v1, r1, blk_more hb k, h0.gr k, h1.gr k, hd⟩
end Ln
end Go.Proofs.Ytpkbdodclkgjpaa

