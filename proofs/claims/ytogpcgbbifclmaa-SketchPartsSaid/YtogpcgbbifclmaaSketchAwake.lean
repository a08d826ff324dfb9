/- The page's example of the sketches. No condition. -/
import Derived.Test.YtogpcgbbifclmaaSketchOf
set_option linter.unusedVariables false
set_option linter.unusedSimpArgs false
namespace Go.Proofs.Ytogpcgbbifclmaa
open Go Go.RowKit W
namespace Sk
theorem byteType : ByteType Try.prog 5 := ⟨by kernel_rfl, by kernel_rfl⟩
theorem eq_agg (a b : List UInt64) (ha : a.length = 8) (hb : b.length = 8) (x y : Operand) (w : World) :
    (do eqGuard .eql 30 x y (.agg (vs a)) (.agg (vs b)); binOp .eql 30 (.agg (vs a)) (.agg (vs b)) : Sem Value).run Try.prog w = .ok (.bool (a == b)) w := by
  obtain ⟨i, hi⟩ : ∃ i, Try.prog.info? 29 = some i := ⟨_, rfl⟩
  rw [vs_eq, vs_eq, (run_binOp_ints w Try.underlying30 Try.underlying29 hi (by kernel_rfl) (by kernel_rfl) (a.map n64) (b.map n64) (by simpa using ha) (by simpa using hb) x y).1, map_n64_beq]
theorem ex_alike : alike (sk [97, 98, 99, 97, 98, 99, 97, 98, 99]) (sk [98, 99, 97, 98, 99, 97, 98]) = 8 := by decide +kernel
set_option maxRecDepth 100000 in
set_option maxHeartbeats 1000000 in
theorem awake_any (w : World) : Calls Try.prog 6 #[] w (Ret (eqv (.bool true)) w) := by
  have hix : ∀ w : World, (Instr.index 30 (.agg (vs (sk []))) (.int .i64 0)).run Try.prog w = .ok (.int .u64 18446744073709551615) w := fun w => by
    obtain ⟨i, hi, h1⟩ : ∃ i, Try.prog.info? 29 = some i ∧ i.size = 1 := ⟨_, rfl, rfl⟩
    have := run_index_arr (P := Try.prog) w Try.underlying30 Try.underlying29 hi h1 (vs (sk [])) 0 (by omega) _ rfl
    exact this
  have hal := Lib.hid (fun w => alike_any (sk [97, 98, 99, 97, 98, 99, 97, 98, 99]) (sk [98, 99, 97, 98, 99, 97, 98]) w (sk_length _) (sk_length _))
  have kc := fun (w : World) (C : Array Value) (n c : Nat) => Lib.run_convert_bytes_const (P := Try.prog) w 22 5 C n c Try.underlying22 Try.underlying5
  have r1 := Lib.hid (fun w => RB.of_new w 5 [97, 98, 99, 97, 98, 99, 97, 98, 99] (9, 10))
  have r2 := Lib.hid (fun w => RB.of_new w 5 [98, 99, 97, 98, 99, 97, 98] (7, 8))
  go_enter Try.func6, Try.ntmps6
  go_wp2_with fail
  go_at_call 9
  refine (of_any _ 9 [97, 98, 99, 97, 98, 99, 97, 98, 99] (by simp) (by simp) (by unfold maxLen; omega) _ (by rw [World.size_alloc]; exact r1.out w)).mono ?_
  rintro e w1 ⟨rfl, g1⟩
  have G1 := Lib.hid (Gr.trans ((Gr.refl w).alloc _) g1)
  clear g1
  go_wp2_with fail
  go_at_call 9
  refine (of_any _ 7 [98, 99, 97, 98, 99, 97, 98] (by simp) (by simp) (by unfold maxLen; omega) _ (by rw [World.size_alloc]; exact r2.out w1)).mono ?_
  rintro e w2 ⟨rfl, g2⟩
  have G2 := Lib.hid (Gr.trans (Gr.alloc G1.out _) g2)
  clear g2 G1
  go_wp2_with fail
  go_at_call 12
  refine (hal.out _).mono ?_
  rintro e w3 ⟨rfl, g3⟩
  rw [ex_alike]
  have G3 := Lib.hid (Gr.trans G2.out g3)
  clear g3 G2
  go_wp2_with fail
  go_at_call 9
  refine (of_any none 0 [] (by simp) (by simp) (by unfold maxLen; omega) _ RB.nil_).mono ?_
  rintro e w4 ⟨rfl, g4⟩
  have G4 := Lib.hid (Gr.trans G3.out g4)
  clear g4 G3
  go_wp2
  go_ret
  exact ⟨_, rfl, rfl, G4.out⟩
end Sk
end Go.Proofs.Ytogpcgbbifclmaa

