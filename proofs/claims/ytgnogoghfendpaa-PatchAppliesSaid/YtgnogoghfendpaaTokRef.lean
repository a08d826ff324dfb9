/- The walks of the document's Bytes and Join. No condition but sizes. -/
import Derived.Test.YtgnogoghfendpaaTokSame
set_option linter.unusedVariables false
set_option linter.unusedSimpArgs false
namespace Go.Proofs.Ytgnogoghfendpaa
open Go Go.RowKit W
namespace Tk
theorem two_lit {a t : Tok} (h1 : a.m = 0) (h2 : t.m = 0) (h3 : a.d.length + t.d.length ≤ 16384) : two a t = some ⟨0, 0, a.d ++ t.d⟩ := by unfold two; rw [if_pos ⟨h1, h2, h3⟩]
theorem two_cpy {a t : Tok} (h1 : 0 < a.m) (h2 : 0 < t.m) (h3 : a.f + a.m = t.f) : two a t = some ⟨a.f, a.m + t.m, []⟩ := by unfold two; rw [if_neg (by omega), if_pos ⟨h1, h2, h3⟩]
theorem two_off {a t : Tok} (h1 : ¬ (a.m = 0 ∧ t.m = 0 ∧ a.d.length + t.d.length ≤ 16384)) (h2 : ¬ (0 < a.m ∧ 0 < t.m ∧ a.f + a.m = t.f)) : two a t = none := by unfold two; rw [if_neg h1, if_neg h2]
def JR' (w wr : World) (J : List Tok) (v : Value) : Prop := ∃ A c, v = .slice A J.length c ∧ OT 37 wr w.heap.size (.slice A J.length c) J
end Tk
end Go.Proofs.Ytgnogoghfendpaa

