/- The walks of few and awake. No condition. -/
import Derived.Test.YtgnogoghfendpaaTokRef
set_option linter.unusedVariables false
set_option linter.unusedSimpArgs false
namespace Go.Proofs.Ytgnogoghfendpaa
open Go Go.RowKit W
namespace Tk
def shortB (l : List Tok) : Bool := l.all fun t => decide (t.d.length ≤ 200)
def fewB (l : List Tok) : Bool := decide (l.length ≤ 30) && shortB l
theorem short_snoc (l : List Tok) (k : Nat) (h : k < l.length) (h1 : shortB (l.take k) = true) (h2 : (l[k]).d.length ≤ 200) : shortB (l.take (k + 1)) = true := by
  unfold shortB at *
  rw [List.take_succ_eq_append_getElem h, List.all_append, h1]
  simp [h2]
theorem short_bad (l : List Tok) (k : Nat) (h : k < l.length) (h2 : ¬ (l[k]).d.length ≤ 200) : shortB l = false := by
  unfold shortB
  rw [List.all_eq_false]
  exact ⟨l[k], List.getElem_mem h, by simpa using h2⟩
theorem TR.newN (w : World) (t : TypeId) (l : List Tok) (cs : Array Value) (h : cs.toList = tcs l) : TR (w.alloc (.cells cs t)) (w.heap.size + 1) (some ⟨w.heap.size, 0, none⟩) l := by
  refine ⟨tcs_len l, fun _ => ⟨_, rfl, Nat.lt_succ_self _, fun j u hu => ?_⟩⟩
  have ha : (⟨w.heap.size, 0, none⟩ : Addr).add j = ⟨w.heap.size, j, none⟩ := by unfold Addr.add; split <;> simp_all
  rw [ha, (Blk.new w t _).cell]
  rw [← h] at hu
  simpa using hu
def ex5 : List Tok := [⟨0, 1, []⟩, ⟨1, 1, []⟩, ⟨0, 0, [97]⟩, ⟨0, 0, [98]⟩, ⟨5, 1, []⟩]
def ex3 : List Tok := [⟨0, 2, []⟩, ⟨0, 0, [97, 98]⟩, ⟨5, 1, []⟩]
theorem ex_join : join ex5 = ex3 := by decide +kernel
theorem ex_fits : Fits ex5 := ⟨by decide, by unfold ex5 Fit; simp⟩
theorem ex3_fits : Fits ex3 := ⟨by decide, by unfold ex3 Fit; simp⟩
theorem ex_bytes : bytes ex3 = 2 := by decide +kernel
end Tk
end Go.Proofs.Ytgnogoghfendpaa

