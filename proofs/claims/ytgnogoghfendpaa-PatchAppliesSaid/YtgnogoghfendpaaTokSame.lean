/- The walks of Same. No condition but sizes. -/
import Derived.Test.YtgnogoghfendpaaTokCopy
set_option linter.unusedVariables false
set_option linter.unusedSimpArgs false
namespace Go.Proofs.Ytgnogoghfendpaa
open Go Go.RowKit W
namespace Tk
theorem run_neq_tok (T : TypeId) (hT : T = 35 ∨ T = 37) (s t : Tok) (x y : Operand) (w : World) : (do eqGuard .neq T x y (tokV s) (tokV t); binOp .neq T (tokV s) (tokV t) : Sem Value).run Try.prog w = .ok (.bool (decide (s ≠ t))) w := by
  obtain ⟨f, m, d⟩ := s
  obtain ⟨f', m', d'⟩ := t
  rcases hT with rfl | rfl <;> by_cases h1 : f = f' <;> by_cases h2 : m = m' <;> by_cases h3 : d = d' <;> simp [go_sem, tokV, h1, h2, h3]
theorem run_ldTok {T : TypeId} (hT : T = 35 ∨ T = 37) (w : World) (p : Addr) (ad : Addr) (t : Tok) (h0 : w.cell? p = some (.int .i64 t.f)) (h1 : w.cell? ⟨p.block, p.off + 1, none⟩ = some (.int .i64 t.m)) (h2 : w.cell? ⟨p.block, p.off + 2, none⟩ = some (.string ⟨t.d.toArray⟩)) (hp : p = ad) :
    (Instr.loadAt T (.pointer (some ad))).run Try.prog w = .ok (tokV t) w := by
  subst hp
  rcases hT with rfl | rfl <;> simp [Instr.loadAt, go_sem, h0, h1, h2]
theorem take_snoc_eq {l m : List Tok} {k : Nat} (h : k < l.length) (h' : k < m.length) (e : l.take k = m.take k) (e2 : l[k] = m[k]) : l.take (k + 1) = m.take (k + 1) := by
  rw [List.take_succ_eq_append_getElem h, List.take_succ_eq_append_getElem h', e, e2]
theorem ne_at {l m : List Tok} {k : Nat} (h : k < l.length) (h' : k < m.length) (e2 : l[k] ≠ m[k]) : decide (l = m) = false := by
  rw [decide_eq_false_iff_not]
  intro e
  subst e
  exact e2 rfl
end Tk
end Go.Proofs.Ytgnogoghfendpaa

