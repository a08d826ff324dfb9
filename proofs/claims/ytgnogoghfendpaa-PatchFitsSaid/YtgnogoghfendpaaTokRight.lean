/- The walks of tokens: one by one. No condition but sizes. -/
import Derived.Test.YtgnogoghfendpaaChecked
import Derived.Test.YtgnogoghfendpaaVintReadE
import Derived.Test.YtgnogoghfendpaaOwnRows
import Derived.Test.YtgnogoghfendpaaRound
import Derived.Test.YtgnogoghfendpaaTokSpec
import Derived.Deep.RegionLaw
import Derived.IntWalk
set_option linter.unusedVariables false
set_option linter.unusedSimpArgs false
namespace Go.Proofs.Ytgnogoghfendpaa
open Go Go.RowKit W
namespace Tk
def tc (t : Tok) : List Value := [.int .i64 t.f, .int .i64 t.m, .string ⟨t.d.toArray⟩]
def tokV (t : Tok) : Value := .agg #[.int .i64 t.f, .int .i64 t.m, .string ⟨t.d.toArray⟩]
attribute [go_sem] tokV
/-- The numbers lie in an int's range. -/
def Fit (t : Tok) : Prop := -9223372036854775808 ≤ t.f ∧ t.f ≤ 9223372036854775807 ∧ -9223372036854775808 ≤ t.m ∧ t.m ≤ 9223372036854775807 ∧ t.d.length ≤ 1099511627776
theorem ret_bool {a b : Bool} (h : a = b) : Ending.returned (.bool a) = .returned (.bool b) := by rw [h]
theorem right_eq (f m : Int) (d : List UInt8) : right ⟨f, m, d⟩ = decide (0 ≤ f ∧ 0 ≤ m ∧ f ≤ 4097 ∧ f + m ≤ 4097 ∧ (0 < m → d.length = 0) ∧ (m ≤ 0 → f = 0 ∧ 1 ≤ d.length ∧ d.length ≤ 16384)) := by
  have he : d.isEmpty = decide (d.length = 0) := by cases d <;> simp
  unfold right
  simp only []
  rw [he]
  by_cases hm : 0 < m
  · rw [if_pos hm, ← Bool.decide_and, decide_eq_decide]
    omega
  · rw [if_neg hm, ← decide_not, ← Bool.decide_and, ← Bool.decide_and, ← Bool.decide_and, decide_eq_decide]
    omega
set_option maxHeartbeats 2000000 in
theorem right_any (t : Tok) (w : World) (hf : Fit t) : Calls Try.prog 22 #[tokV t] w fun e w' => e = .returned (.bool (right t)) ∧ Gr w w' := by
  obtain ⟨f, m, d⟩ := t
  obtain ⟨h1, h2, h3, h4, h5⟩ := hf
  simp only at h1 h2 h3 h4 h5
  rw [right_eq]
  obtain ⟨v, hv⟩ : ∃ v, v = decide (0 ≤ f ∧ 0 ≤ m ∧ f ≤ 4097 ∧ f + m ≤ 4097 ∧ (0 < m → d.length = 0) ∧ (m ≤ 0 → f = 0 ∧ 1 ≤ d.length ∧ d.length ≤ 16384)) := ⟨_, rfl⟩
  rw [← hv]
  replace hv := Lib.hid hv
  go_enter Try.func22, Try.ntmps22
  go_wp2
  all_goals
    go_ret
    refine ⟨ret_bool ?_, (Gr.refl w).alloc _⟩
    rw [hv.out, eq_comm]
    first
      | exact decide_eq_false (by omega)
      | (have hd : d = [] := by assumption
         subst hd
         exact decide_eq_false (by simp only [List.length_nil]; omega))
      | (rw [Bool.eq_iff_iff]; simp only [decide_eq_true_eq, beq_iff_eq]; omega)
      | (rw [Bool.eq_iff_iff]; simp only [decide_eq_true_eq, beq_iff_eq, List.isEmpty_iff_length_eq_zero]; omega)
      | (have he : d.isEmpty = decide (d.length = 0) := by cases d <;> simp
         rw [he, Bool.eq_iff_iff]
         simp only [Bool.and_eq_true, Bool.not_eq_true', decide_eq_true_eq, decide_eq_false_iff_not]
         omega)
set_option maxHeartbeats 2000000 in
theorem refRight_any (t : Tok) (w : World) (hf : Fit t) : Calls Try.prog 25 #[tokV t] w fun e w' => e = .returned (.bool (right t)) ∧ Gr w w' := by
  obtain ⟨f, m, d⟩ := t
  obtain ⟨h1, h2, h3, h4, h5⟩ := hf
  simp only at h1 h2 h3 h4 h5
  rw [right_eq]
  obtain ⟨v, hv⟩ : ∃ v, v = decide (0 ≤ f ∧ 0 ≤ m ∧ f ≤ 4097 ∧ f + m ≤ 4097 ∧ (0 < m → d.length = 0) ∧ (m ≤ 0 → f = 0 ∧ 1 ≤ d.length ∧ d.length ≤ 16384)) := ⟨_, rfl⟩
  rw [← hv]
  replace hv := Lib.hid hv
  go_enter Try.func25, Try.ntmps25
  go_wp2
  all_goals
    go_ret
    refine ⟨ret_bool ?_, (Gr.refl w).alloc _⟩
    rw [hv.out, eq_comm]
    first
      | exact decide_eq_false (by omega)
      | (have hd : d = [] := by assumption
         subst hd
         exact decide_eq_false (by simp only [List.length_nil]; omega))
      | (rw [Bool.eq_iff_iff]; simp only [decide_eq_true_eq, beq_iff_eq]; omega)
      | (rw [Bool.eq_iff_iff]; simp only [decide_eq_true_eq, beq_iff_eq, List.isEmpty_iff_length_eq_zero]; omega)
      | (have he : d.isEmpty = decide (d.length = 0) := by cases d <;> simp
         rw [he, Bool.eq_iff_iff]
         simp only [Bool.and_eq_true, Bool.not_eq_true', decide_eq_true_eq, decide_eq_false_iff_not]
         omega)
theorem tokInfo (x y z : Value) : (Try.prog.info? 35).map (·.size) = some #[x, y, z].size := by kernel_rfl
set_option maxHeartbeats 1000000 in
theorem copy_any (a b : Int) (w : World) : Calls Try.prog 17 #[.int .i64 a, .int .i64 b] w fun e w' => e = .returned (tokV ⟨a, b, []⟩) ∧ Gr w w' := by
  go_enter Try.func17, Try.ntmps17
  go_wp2
  exact bodyPost_ret (results_cell_row Try.results17 _ _ w.heap.size 35 _ (0, 0) _ rfl (Blk.new w _ _) Try.underlying35 rfl (tokInfo _ _ _)) rfl ⟨rfl, (Gr.refl w).alloc _⟩
theorem literal_any (s : List UInt8) (w : World) : Calls Try.prog 57 #[str s] w fun e w' => e = .returned (tokV ⟨0, 0, s⟩) ∧ Gr w w' := by
  go_enter Try.func57, Try.ntmps57
  go_wp2
  exact bodyPost_ret (results_cell_row Try.results57 _ _ w.heap.size 35 _ (0, 0) _ rfl (Blk.new w _ _) Try.underlying35 rfl (tokInfo _ _ _)) rfl ⟨rfl, (Gr.refl w).alloc _⟩
end Tk
end Go.Proofs.Ytgnogoghfendpaa

