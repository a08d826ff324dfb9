/- The walk of BlockCounts. No condition. -/
import Derived.Test.YtcibngbgcnnjnaaSigAwake
set_option linter.unusedVariables false
set_option linter.unusedSimpArgs false
namespace Go.Proofs.Ytcibngbgcnnjnaa
open Go Go.RowKit W Bl
namespace Sg
set_option maxRecDepth 100000 in
set_option maxHeartbeats 4000000 in
theorem counts_walk (n size : Int) (w : World) (h1 : -9223372036854775808 ≤ n) (h2 : n ≤ 9223372036854775807) :
    Calls Try.prog 3 #[.int .i64 n, .int .i64 size] w (Ret (eqv (.bool true)) w) := by
  have hh := Lib.hid (fun w => refHold_any size w)
  have hp := (hold_pos size).1
  have hp2 := (hold_pos size).2
  rcases Int.lt_trichotomy n 0 with hn | rfl | hn
  · have hc := Lib.hid (fun w => count_neg n size w hn)
    generalize hold size = h at *
    go_enter Try.func3, Try.ntmps3
    go_wp2_with fail
    go_at_call 7
    refine (hc.out _).mono ?_
    rintro e w1 ⟨rfl, rfl⟩
    go_wp2_with fail
    go_at_call 8
    refine (hh.out _).mono ?_
    rintro e w1 ⟨rfl, rfl⟩
    go_wp2_with fail
    go_at_call 9
    refine (awake_any _).mono ?_
    rintro e w2 ⟨rfl, g2⟩
    go_wp2
    go_ret
    exact ⟨_, rfl, rfl, g2⟩
  · have hc := Lib.hid (fun w => (count_any 0 size w (by omega) : Calls Try.prog 7 #[.int .i64 0, .int .i64 size] w _))
    rw [show count 0 (hold size) = 0 by simp [count]] at hc
    generalize hold size = h at *
    go_enter Try.func3, Try.ntmps3
    go_wp2_with fail
    go_at_call 7
    refine (hc.out _).mono ?_
    rintro e w1 ⟨rfl, rfl⟩
    go_wp2_with fail
    go_at_call 8
    refine (hh.out _).mono ?_
    rintro e w1 ⟨rfl, rfl⟩
    go_wp2_with fail
    go_at_call 9
    refine (awake_any _).mono ?_
    rintro e w2 ⟨rfl, g2⟩
    go_wp2
    go_ret
    exact ⟨_, rfl, rfl, g2⟩
  · obtain ⟨m, rfl⟩ : ∃ m : Nat, n = (m : Int) := ⟨n.toNat, by omega⟩
    have hc := Lib.hid (fun w => count_any m size w (by omega))
    obtain ⟨q1, q2, q3⟩ := count_whole (n := m) (h := hold size) (by omega) (by omega)
    generalize hold size = h at *
    have h0 : ¬ (h : Int) = 0 := by omega
    have hb : ((h : Int) == 0) = false := by simp; omega
    have hb1 : ((h : Int) == -1) = false := by simp
    have hdt : ((m : Int) - 1).tdiv (h : Int) = (((m - 1) / h : Nat) : Int) := by
      rw [show (m : Int) - 1 = ((m - 1 : Nat) : Int) by omega, Int.tdiv_eq_ediv_of_nonneg (by omega)]
      exact (Int.natCast_ediv _ h).symm
    rw [q3] at hdt
    generalize count m h = k at *
    have hk : ((k - 1 : Nat) : Int) = (k : Int) - 1 := by omega
    rw [hk] at hdt
    have e1 : (1 : Int) ≤ (k : Int) := by omega
    have e2 : (k : Int) ≤ (m : Int) := by omega
    go_enter Try.func3, Try.ntmps3
    go_wp2_with fail
    go_at_call 7
    refine (hc.out _).mono ?_
    rintro e w1 ⟨rfl, rfl⟩
    go_wp2_with fail
    go_at_call 8
    refine (hh.out _).mono ?_
    rintro e w1 ⟨rfl, rfl⟩
    go_wp2_with fail
    go_at_call 9
    refine (awake_any _).mono ?_
    rintro e w2 ⟨rfl, g2⟩
    clear hc hh
    go_wp2
    go_ret
    exact ⟨_, rfl, rfl, g2⟩
end Sg
end Go.Proofs.Ytcibngbgcnnjnaa

