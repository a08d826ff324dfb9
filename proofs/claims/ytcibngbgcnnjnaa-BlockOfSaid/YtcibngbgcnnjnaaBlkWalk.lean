/- The walks of blocks: how many, which. No condition but sizes. -/
import Derived.Test.YtcibngbgcnnjnaaBlkSpec
import Derived.Test.YtcibngbgcnnjnaaGrowM
import Derived.Test.YtcibngbgcnnjnaaChecked
import Derived.IntWalk
set_option linter.unusedVariables false
set_option linter.unusedSimpArgs false
namespace Go.Proofs.Ytcibngbgcnnjnaa
open Go Go.RowKit W
namespace Bl
theorem byteType : ByteType Try.prog 5 := ⟨by kernel_rfl, by kernel_rfl⟩
theorem ret_int {a b : Int} (h : a = b) : Ending.returned (.int .i64 a) = .returned (.int .i64 b) := by rw [h]
theorem hold_any (size : Int) (w : World) : Calls Try.prog 27 #[.int .i64 size] w fun e w' => e = .returned (.int .i64 (hold size : Int)) ∧ w' = w := by
  obtain ⟨v, hv⟩ : ∃ v, v = (hold size : Int) := ⟨_, rfl⟩
  rw [← hv]
  unfold hold at hv
  replace hv := Lib.hid hv
  go_enter Try.func27, Try.ntmps27
  go_wp2
  all_goals
    go_ret
    refine ⟨ret_int ?_, rfl⟩
    rw [hv.out]
    repeat' split
    all_goals omega
theorem refHold_any (size : Int) (w : World) : Calls Try.prog 8 #[.int .i64 size] w fun e w' => e = .returned (.int .i64 (hold size : Int)) ∧ w' = w := by
  obtain ⟨v, hv⟩ : ∃ v, v = (hold size : Int) := ⟨_, rfl⟩
  rw [← hv]
  unfold hold at hv
  replace hv := Lib.hid hv
  go_enter Try.func8, Try.ntmps8
  go_wp2
  all_goals
    go_ret
    refine ⟨ret_int ?_, rfl⟩
    rw [hv.out]
    repeat' split
    all_goals omega
theorem count_any (n : Nat) (size : Int) (w : World) (hn : n ≤ 9223372036854775807) : Calls Try.prog 7 #[.int .i64 (n : Int), .int .i64 size] w fun e w' => e = .returned (.int .i64 (count n (hold size) : Int)) ∧ w' = w := by
  have hh := Lib.hid (hold_any size w)
  have hp := (hold_pos size).1
  have hp2 := (hold_pos size).2
  generalize hold size = h at *
  have hd : ((n : Int) / (h : Int)) = ((n / h : Nat) : Int) := (Int.natCast_ediv n h).symm
  have hr : ((n : Int) % (h : Int)) = ((n % h : Nat) : Int) := (Int.natCast_emod n h).symm
  have hdt : (n : Int).tdiv (h : Int) = ((n / h : Nat) : Int) := by rw [Int.tdiv_eq_ediv_of_nonneg (by omega)]; exact hd
  have hrt : (n : Int).tmod (h : Int) = ((n % h : Nat) : Int) := by rw [Int.tmod_eq_emod_of_nonneg (by omega)]; exact hr
  have hle : n / h ≤ n / 4 := Nat.div_le_div_left hp (by omega)
  have h0 : ¬ (h : Int) = 0 := by omega
  have hb : ((h : Int) == 0) = false := by simp; omega
  have hb1 : ((h : Int) == -1) = false := by simp
  by_cases hq : 0 < n % h
  · have hc : Hid (count n h = n / h + 1) := Lib.hid (by unfold count; rw [if_pos hq])
    have hq' : (0 : Int) < ((n % h : Nat) : Int) := by omega
    generalize n / h = a at *
    generalize n % h = b at *
    go_enter Try.func7, Try.ntmps7
    go_wp2_with fail
    go_at_call 27
    refine hh.out.mono ?_
    rintro e w1 ⟨rfl, rfl⟩
    clear hh
    go_wp2
    go_ret
    exact ⟨ret_int (by rw [hc.out]; omega), rfl⟩
  · have hc : Hid (count n h = n / h) := Lib.hid (by unfold count; rw [if_neg hq]; rfl)
    have hq' : ¬ (0 : Int) < ((n % h : Nat) : Int) := by omega
    generalize n / h = a at *
    generalize n % h = b at *
    go_enter Try.func7, Try.ntmps7
    go_wp2_with fail
    go_at_call 27
    refine hh.out.mono ?_
    rintro e w1 ⟨rfl, rfl⟩
    clear hh
    go_wp2
    go_ret
    exact ⟨ret_int (by rw [hc.out]), rfl⟩
end Bl
end Go.Proofs.Ytcibngbgcnnjnaa

