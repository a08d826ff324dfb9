/- The walk of the example that each law on strong sums asks first. No condition. -/
import Derived.Test.YtppoeneldilnjaaMixOf
import Derived.Test.YtppoeneldilnjaaMixParseB
set_option linter.unusedVariables false
set_option linter.unusedSimpArgs false
namespace Go.Proofs.Ytppoeneldilnjaa
open Go Go.RowKit W
namespace Mix
theorem of_nil : of [] = closed start 0 := by
  unfold of
  rw [feed_less (by simp), rest_less (by simp)]
  rfl
theorem closed_ne : (closed start 0).1 ≠ 0 := by decide +kernel
theorem text_12 : L (up 1) (up 2) 16 = [48, 48, 48, 48, 48, 48, 48, 48, 48, 48, 48, 48, 48, 48, 48, 49, 48, 48, 48, 48, 48, 48, 48, 48, 48, 48, 48, 48, 48, 48, 48, 50] := by decide +kernel
theorem awake_any (w : World) : Calls Try.prog 8 #[] w (Ret (eqv (.bool true)) w) := by
  have ht := text_any (1, 2) w
  rw [text_12] at ht
  have e1 : sumV (1, 2) = .agg #[.int .u64 1, .int .u64 2] := rfl
  rw [e1] at ht
  have ht' := Lib.hid ht
  have ho := Lib.hid (fun w => of_any none 0 [] w (by simp) (Nat.le_refl _) RB.nil_)
  have hn : (n64 (of []).1 == 0) = false := by
    have := closed_ne
    rw [of_nil]
    rw [beq_eq_false_iff_ne]
    intro h
    apply this
    apply UInt64.toNat_inj.1
    unfold n64 at h
    simpa using h
  generalize of [] = s at *
  clear ht e1
  go_enter Try.func8, Try.ntmps8
  go_wp2_with (first
    | (go_at_call 21; refine ht'.out.mono ?_; clear ht'; rintro e w1 ⟨rfl, hg1⟩)
    | (go_at_call 9; refine (ho.out _).mono ?_; rintro e w2 ⟨rfl, hg2⟩))
  go_ret
  exact ⟨_, rfl, rfl, hg1.trans hg2⟩
end Mix
end Go.Proofs.Ytppoeneldilnjaa
