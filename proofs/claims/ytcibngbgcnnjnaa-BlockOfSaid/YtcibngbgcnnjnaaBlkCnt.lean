/- block.Count of what is less than nothing. No condition. -/
import Derived.Test.YtcibngbgcnnjnaaBlkWalk
set_option linter.unusedVariables false
set_option linter.unusedSimpArgs false
namespace Go.Proofs.Ytcibngbgcnnjnaa
open Go Go.RowKit W
namespace Bl
theorem count_neg (n : Int) (size : Int) (w : World) (hn : n < 0) : Calls Try.prog 7 #[.int .i64 n, .int .i64 size] w fun e w' => e = .returned (.int .i64 0) ∧ w' = w := by
  have hh := Lib.hid (hold_any size w)
  have hp := (hold_pos size).1
  have hp2 := (hold_pos size).2
  generalize hold size = h at *
  have h0 : ¬ (h : Int) = 0 := by omega
  have hb : ((h : Int) == 0) = false := by simp; omega
  have hb1 : ((h : Int) == -1) = false := by simp
  go_enter Try.func7, Try.ntmps7
  go_wp2_with fail
  go_at_call 27
  refine hh.out.mono ?_
  rintro e w1 ⟨rfl, rfl⟩
  clear hh
  go_wp2
  go_ret
  exact ⟨rfl, rfl⟩
/-- So many that all but the last one are whole. -/
theorem count_whole {n h : Nat} (hn : 0 < n) (hh : 0 < h) : 1 ≤ count n h ∧ count n h ≤ n ∧ (n - 1) / h = count n h - 1 := by
  have h1 : 0 < count n h := (count_lt hh).2 (by omega)
  refine ⟨h1, count_le n h hh, ?_⟩
  have h2 := (count_lt (n := n) (k := count n h - 1) hh).1 (by omega)
  have h3 : ¬ count n h * h < n := fun h3 => Nat.lt_irrefl _ ((count_lt hh).2 h3)
  refine Nat.le_antisymm ?_ ?_
  · refine Nat.le_of_lt_succ ((Nat.div_lt_iff_lt_mul hh).2 ?_)
    rw [Nat.succ_eq_add_one, Nat.sub_add_cancel h1]
    omega
  · exact (Nat.le_div_iff_mul_le hh).2 (by omega)
end Bl
end Go.Proofs.Ytcibngbgcnnjnaa

