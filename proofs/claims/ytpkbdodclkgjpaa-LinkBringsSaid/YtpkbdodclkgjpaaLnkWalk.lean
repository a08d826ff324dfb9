/- The walks of a link's ways. No condition but sizes. -/
import Derived.Test.YtpkbdodclkgjpaaLnkMem
import Derived.Deep.RegionLaw
import Derived.Laws.MakeOwn
set_option linter.unusedVariables false
set_option linter.unusedSimpArgs false
namespace Go.Proofs.Ytpkbdodclkgjpaa
open Go Go.RowKit W
namespace Ln
theorem op_row {w : World} {base m : Nat} {rows : List (Value × Value)} (h : w.heap[m]? = some (.cells (pcs rows).toArray 63 (0, 0))) (hb : base ≤ m) (hm : rows.length ≤ maxLen) : OP w base (.slice (some ⟨m, 0, none⟩) rows.length rows.length) rows :=
  ⟨pcs_len rows, .inr ⟨m, rows.length, (pcs rows).toArray, rfl, hb, h, Nat.le_refl _, hm, by simp [pcs_len], List.take_of_length_le (by simp [pcs_len])⟩⟩
theorem splice2 (Z X Y : List Value) (k : Nat) (hk : X.length = k) (hZ : Z.length = k + Y.length) : splice (splice Z 0 X) k Y = X ++ Y := by
  unfold splice
  simp only [List.take_zero, List.nil_append, Nat.zero_add]
  rw [List.take_append_of_le_length (by omega), List.take_of_length_le (by omega)]
  have : (X ++ Z.drop X.length).drop (k + Y.length) = [] := by
    apply List.drop_eq_nil_of_le
    rw [List.length_append, List.length_drop]
    omega
  rw [this, List.append_nil]
theorem at_nil (x : Int) (w : World) : Calls Try.prog 19 #[.pointer none, .int .i64 x] w fun e w' => e = .returned (.pointer none) ∧ w' = w := by
  go_enter Try.func19, Try.ntmps19
  go_wp2
  go_ret
  exact ⟨rfl, rfl⟩
theorem at_out (g : Nat) (x : Int) (w : World) (hx : x < 0 ∨ 2 ≤ x) : Calls Try.prog 19 #[.pointer (some ⟨g, 0, none⟩), .int .i64 x] w fun e w' => e = .returned (.pointer none) ∧ w' = w := by
  by_cases h0 : x < 0
  · clear hx
    go_enter Try.func19, Try.ntmps19
    go_wp2
    go_ret
    exact ⟨rfl, rfl⟩
  · have h2 : 2 ≤ x := by omega
    clear hx
    go_enter Try.func19, Try.ntmps19
    go_wp2
    go_ret
    exact ⟨rfl, rfl⟩
theorem at_zero (g : Nat) (w : World) : Calls Try.prog 19 #[.pointer (some ⟨g, 0, none⟩), .int .i64 0] w fun e w' => e = .returned (.pointer (some ⟨g, 0, none⟩)) ∧ w' = w := by
  go_enter Try.func19, Try.ntmps19
  go_wp2
  go_ret
  exact ⟨rfl, rfl⟩
theorem at_one (g : Nat) (w : World) : Calls Try.prog 19 #[.pointer (some ⟨g, 0, none⟩), .int .i64 1] w fun e w' => e = .returned (.pointer (some ⟨g, 3, none⟩)) ∧ w' = w := by
  go_enter Try.func19, Try.ntmps19
  go_wp2
  go_ret
  exact ⟨rfl, rfl⟩
theorem has_nil (i : Int) (w : World) : Calls Try.prog 23 #[.pointer none, .int .i64 i] w fun e w' => e = .returned (.bool false) ∧ w' = w := by
  go_enter Try.func23, Try.ntmps23
  go_wp2
  go_ret
  exact ⟨rfl, rfl⟩
theorem has_any (g o n c : Nat) (A : Option Addr) (i : Int) (w : World) (h : w.cell? ⟨g, o, none⟩ = some (.slice A n c)) : Calls Try.prog 23 #[.pointer (some ⟨g, o, none⟩), .int .i64 i] w fun e w' => e = .returned (.bool (decide (0 ≤ i ∧ i < (n : Int)))) ∧ w' = w := by
  by_cases h0 : 0 ≤ i
  · by_cases h1 : i < (n : Int)
    · rw [decide_eq_true ⟨h0, h1⟩]
      go_enter Try.func23, Try.ntmps23
      go_wp2
      go_ret
      exact ⟨rfl, rfl⟩
    · rw [decide_eq_false (fun h => h1 h.2)]
      go_enter Try.func23, Try.ntmps23
      go_wp2
      go_ret
      exact ⟨rfl, rfl⟩
  · rw [decide_eq_false (fun h => h0 h.1)]
    go_enter Try.func23, Try.ntmps23
    go_wp2
    go_ret
    exact ⟨rfl, rfl⟩
end Ln
end Go.Proofs.Ytpkbdodclkgjpaa

