/- The walk of the page's example of numbers as bytes. No condition. -/
import Derived.Test.YtblafmoidgmnfaaVintNil
set_option linter.unusedVariables false
set_option linter.unusedSimpArgs false
namespace Go.Proofs.Ytblafmoidgmnfaa
open Go Go.RowKit W
namespace Vint
theorem num_300 : [] ++ num (300 : UInt64).toNat = [172, 2] := by
  rw [List.nil_append, show (300 : UInt64).toNat = 300 from rfl, num_big (by omega), num_small (by omega)]
  rfl
theorem text_ab : [] ++ text [97, 98] = [2, 97, 98] := by
  rw [List.nil_append]
  unfold text
  rw [num_small (by simp)]
  rfl
theorem get_7 : (get ([7], 0) (9 : UInt64).toNat).2 = 7 := by
  unfold get
  have e : scan [7] (9 : UInt64).toNat 0 0 = (0, 7, 1) := by
    rw [scan]
    rfl
  show (if (0 : Nat) = 0 then _ else _ : RS × Nat).2 = 7
  rw [if_pos rfl]
  show (if (scan [7] (9 : UInt64).toNat 0 0).1 = 0 then _ else _ : RS × Nat).2 = 7
  rw [e]
  rfl
set_option maxHeartbeats 1000000 in
theorem awake_any (w : World) : Calls Try.prog 8 #[] w (Ret (eqv (.bool true)) w) := by
  have h1 := Lib.hid (by have h := vnum_any none 0 [] 300 w (by simp) RB.nil_; rw [num_300] at h; exact h : Calls Try.prog 14 #[.slice none 0 0, .int .u64 300] w (Out 5 w [172, 2]))
  go_enter Try.func8, Try.ntmps8
  go_wp2_with fail
  refine h1.out.mono ?_
  rintro e w1 ⟨A1, c1, rfl, hown1, hg1⟩
  have hcv := run_bytes_string (P := Try.prog) w1 22 9 5 Try.underlying22 byteType.1 Try.underlying9 _ A1 c1 2 [172, 2] rfl hown1.rb
  have h2 := Lib.hid (by have h := vtext_any none 0 [] [97, 98] w1 (by simp) (by simp) RB.nil_; rw [text_ab] at h; exact h : Calls Try.prog 24 #[.slice none 0 0, str [97, 98]] w1 (Out 5 w1 [2, 97, 98]))
  replace hg1 := Lib.hid hg1
  clear h1 hown1
  go_wp2_with fail
  refine h2.out.mono ?_
  rintro e w2 ⟨A2, c2, rfl, hown2, hg2⟩
  have hcv2 := run_bytes_string (P := Try.prog) w2 22 9 5 Try.underlying22 byteType.1 Try.underlying9 _ A2 c2 3 [2, 97, 98] rfl hown2.rb
  have hrd := Lib.hid (read_any (some ⟨w2.heap.size, 0, none⟩) 1 [7] (w2.alloc (.cells #[.int .u8 7] 5)) (by simp) (by rw [World.size_alloc]; exact RB.new1 w2 5 7))
  have hg3 := Lib.hid ((hg1.out.trans hg2).alloc (.cells #[.int .u8 7] 5))
  clear h2 hown2 hg1 hg2 hcv
  go_wp2_with fail
  refine hrd.out.mono ?_
  rintro e w3 ⟨g, rfl, hgs, hR, hg4⟩
  have hn := Lib.hid (by have h := rnum_any g ([7], 0) 9 w3 hR; rw [get_7] at h; exact h : Calls Try.prog 12 #[.pointer (some ⟨g, 0, none⟩), .int .u64 9] w3 fun e w' => e = .returned (.int .u64 7) ∧ Rdr w' g (get ([7], 0) (9 : UInt64).toNat).1 ∧ Kb g w3 w')
  have hg5 := Lib.hid (hg3.out.trans hg4)
  have hgl : w.heap.size ≤ g := Nat.le_trans hg3.out.size hgs
  have hRl := hR.lt
  clear hrd hR hg4 hg3 hcv2
  go_wp2_with fail
  refine hn.out.mono ?_
  rintro e w4 ⟨rfl, _, hk⟩
  have hg6 := Lib.hid (Below.trans hg5.out (Below.mono (hk.below (Nat.le_of_lt hRl)) hgl))
  clear hn hk hg5
  go_wp2
  go_ret
  exact ⟨_, rfl, rfl, hg6.out⟩
end Vint
end Go.Proofs.Ytblafmoidgmnfaa
