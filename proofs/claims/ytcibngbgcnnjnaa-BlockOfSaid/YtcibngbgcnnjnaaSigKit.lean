/- Own rows, further: what is kept when another block is written. No condition. -/
import Derived.Test.YtcibngbgcnnjnaaSigRows
import Derived.Test.YtcibngbgcnnjnaaRound
set_option linter.unusedVariables false
set_option linter.unusedSimpArgs false
namespace Go.Proofs.Ytcibngbgcnnjnaa
open Go Go.RowKit Go.Shelf W
namespace Sg
theorem or_own {E : TypeId} {size base n : Nat} {X Y : World} {v : Value} {xs : List Value} {row : Option Nat} (h : OR E size X base v n xs) (hg : X.grownBy Y row) (hr : ∀ r, row = some r → ∃ o : Obj, X.heap[r]? = some o ∧ o.isCells = false) : OR E size Y base v n xs := by
  refine World.ownsRow.kept h hg ?_
  rcases h.2 with ⟨rfl, _⟩ | ⟨g, cap, cur, rfl, _, hh, _⟩
  · exact .inl rfl
  · refine .inr fun e => ?_
    obtain ⟨o, ho, hc⟩ := hr g e.symm
    rw [hh] at ho
    cases ho
    cases hc
theorem or_kb {E : TypeId} {size base b n : Nat} {X Y : World} {v : Value} {xs : List Value} (h : OR E size X base v n xs) (hk : Kb b X Y) (h2 : b < base) : OR E size Y base v n xs := by
  refine World.ownsRow.kept h hk ?_
  rcases h.2 with ⟨hv, _⟩ | ⟨g', cap, cur, hv, hg, hh, _⟩
  · exact .inl (by rw [hv]; rfl)
  · refine .inr fun e => ?_
    rw [hv] at e
    have : g' = b := Option.some.inj e
    omega
theorem os_kb {E : TypeId} {base b : Nat} {X Y : World} {v : Value} {l : List Sign} (h : OS E X base v l) (hk : Kb b X Y) (h2 : b < base) : OS E Y base v l := by
  refine World.ownsRow.kept h hk ?_
  rcases h.2 with ⟨hv, _⟩ | ⟨g', cap, cur, hv, hg, hh, _⟩
  · exact .inl (by rw [hv]; rfl)
  · refine .inr fun e => ?_
    rw [hv] at e
    have : g' = b := Option.some.inj e
    omega
theorem os_others {E : TypeId} {size base n : Nat} {X Y : World} {v : Value} {xs : List Value} (h : OR E size X base v n xs) (hg : X.grownBy Y v.ownBlock) : KeepsOthers X Y :=
  KeepsOthers.of_grownBy hg (fun j o e ho => by
    rcases h.2 with ⟨hv, _⟩ | ⟨g', cap, cur, hv, _, hh, _⟩
    · rw [hv] at e; cases e
    · rw [hv] at e
      have : g' = j := Option.some.inj e
      subst this
      rw [hh] at ho
      cases ho
      rfl)
theorem wpList_append_rowsG {P : Program} {E : TypeId} {size base n : Nat} {v : Value} {xs : List Value} {w : World} {ops : Array Oper} {rest : List Oper} {o : Oper} {a : Act} {Q : Exit → Act → World → Prop} (hgd : o.guard = none) (s x : Operand) (T : TypeId)
    (ho : o.op = .call { callee := .builtin .append, args := #[s, x], argTypes := #[T, T] }) {bytes : Nat} (ht : P.underlying T = some (.slice E)) (hE : RowType P E size bytes) (hs : a.eval s = v) (hown : OR E size w base v n xs)
    (B : Nat) (A : Option Addr) (m c : Nat) (news : List Value) (hx : a.eval x = .slice A m c) (hr : Reads w B size A m news) (h1 : ∀ u ∈ news, u.oneCell' = true) (hlen : n + m ≤ maxLen) (hby : (n + m) * bytes ≤ 140737488355328) (hbase : base ≤ w.heap.size)
    (L : List Value) (hL : L = xs ++ news) (k : Nat) (hk : k = n + m) (h : ∀ A' c' w', OR E size w' base (.slice A' k c') k L → Below base w w' → KeepsOthers w w' → wpList P ops Q rest (a.put o.dst (.slice A' k c')) w') : wpList P ops Q (o :: rest) a w :=
  wpList_wanted (by simp [Region.wanted, hgd]) fun _ hK => by
    subst hL
    subst hk
    obtain ⟨A', c', w', hrun, h2, h3, h4, _⟩ := run_append_rows (P := P) T o.type ht hE hown B A m c news hr h1 hlen hby hbase
    unfold Oper.wp execOp
    simp only [ho, resolve, invoke, builtin, Sem.run_bind, Sem.run_pure, Result.andThen_ok, List.map_toArray, List.map_cons, List.map_nil, hs, hx, hrun]
    exact hK _ _ (h A' c' w' h2 h3 (os_others hown h4))
theorem wpList_isLoad {P : Program} {w : World} {ops : Array Oper} {rest : List Oper} {o : Oper} {a : Act} {Q : Exit → Act → World → Prop} (T : TypeId) (x : Operand)
    (ho : o.op = .load T x) (h : wpList P ops Q (o :: rest) a w) : wpList P ops Q (o :: rest) a w := h
end Sg
end Go.Proofs.Ytcibngbgcnnjnaa

