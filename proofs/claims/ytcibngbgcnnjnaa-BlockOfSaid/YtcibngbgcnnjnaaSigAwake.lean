/- The law's example: awake. No condition. -/
import Derived.Test.YtcibngbgcnnjnaaSigOf
import Derived.Test.YtcibngbgcnnjnaaSigPutB
import Derived.Test.YtcibngbgcnnjnaaBlkAt
import Derived.Test.YtcibngbgcnnjnaaBlkCnt
set_option linter.unusedVariables false
set_option linter.unusedSimpArgs false
namespace Go.Proofs.Ytcibngbgcnnjnaa
open Go Go.RowKit W Bl Vint
namespace Sg
abbrev abc : List UInt8 := [97, 98, 99, 100, 101, 102, 103, 104, 105, 106]
theorem num_pos (n : Nat) : 1 ≤ (num n).length := by
  rw [num]
  split <;> simp
theorem signB_pos (x : Sign) : 17 ≤ (signB x).length := by
  have := num_pos x.1.toNat
  simp only [signB, sum, be8, List.length_append, List.length_map, List.length_range]
  omega
theorem put_long {s : Sig} (h : right s = true) (h2 : s.bs.length = 2) : 20 < (putB s).length := by
  have e : ∃ a b, s.bs = [a, b] := by
    obtain ⟨z, bs, t, x⟩ := s
    simp only at h2
    match bs, h2 with
    | [a, b], _ => exact ⟨a, b, rfl⟩
  obtain ⟨a, b, e⟩ := e
  rw [putB_right h, List.length_append, List.length_append, putN, List.length_append, h2]
  rw [e]
  have h3 := signB_pos a
  have h4 := signB_pos b
  simp only [List.take_succ_cons, List.take_zero, List.flatMap_cons, List.flatMap_nil, List.length_append, List.length_nil]
  omega
set_option maxRecDepth 100000 in
set_option maxHeartbeats 4000000 in
theorem awake_any (w : World) : Calls Try.prog 9 #[] w fun e w' => e = .returned (.bool true) ∧ Gr w w' := by
  have hl := Lib.hid (put_long (s := sigOf abc 4) (right_sigOf _ _ (by simp)) (by simp only [sigOf, full_len]; rfl))
  have hb : (sigOf abc 4).bs.length = 2 := by simp only [sigOf, full_len]; rfl
  have ht : (sigOf abc 4).tail = 2 := rfl
  have kc := fun (w : World) (C : Array Value) (n c : Nat) => Lib.run_convert_bytes_const (P := Try.prog) w 26 5 C n c Try.underlying26 Try.underlying5
  have r0 := Lib.hid (fun w => RB.of_new w 5 abc (10, 11))
  have hcn := Lib.hid (fun w => (count_any 10 4 w (by omega) : Calls Try.prog 7 #[.int .i64 10, .int .i64 4] w fun e w' => e = .returned (.int .i64 3) ∧ w' = w))
  have hat := Lib.hid (fun A w (hr : RB w w.heap.size A abc) => (at_any A 10 abc 4 2 w (by simp) (by simp) hr (by decide) : Calls Try.prog 17 #[.slice A 10 10, .int .i64 4, .int .i64 2] w (Out 5 w [105, 106])))
  obtain ⟨s, hs⟩ : ∃ s, sigOf abc 4 = s := ⟨_, rfl⟩
  rw [hs] at hl hb ht
  have hof := Lib.hid (fun A w (hr : RB w w.heap.size A abc) => of_any A 10 abc 4 w (by simp) (by simp) (by unfold maxLen; simp) hr)
  rw [hs] at hof
  clear hs
  go_enter Try.func9, Try.ntmps9
  go_wp2_with fail
  go_at_call 10
  refine (hof.out _ _ (by rw [World.size_alloc]; exact r0.out w)).mono ?_
  rintro e w1 ⟨A1, c1, rfl, o1, g1⟩
  have G1 := Lib.hid ((Gr.trans ((Gr.refl w).alloc _) g1).alloc (.cells (sigC s.size (.slice A1 s.bs.length c1) s.tail s.last) 35))
  have n1 := Lib.hid (Blk.new w1 35 (sigC s.size (.slice A1 s.bs.length c1) s.tail s.last))
  have o1' := Lib.hid (OS.below o1 ((Gr.refl w1).alloc (.cells (sigC s.size (.slice A1 s.bs.length c1) s.tail s.last) 35)))
  have hpu := Lib.hid (fun w (hr : SR w w.heap.size A1 s.bs) => Sg.put_any s A1 c1 w hr)
  clear g1 o1 hof
  unfold sigV at hpu
  rw [hb, ht] at n1 o1' hpu G1
  have kc2 := fun (C : Array Value) (n c : Nat) => kc (w1.alloc (.cells (sigC s.size (.slice A1 2 c1) 2 s.last) 35)) C n c
  simp only [World.size_alloc] at kc2
  go_wp2_with fail
  go_at_call 7
  refine (hcn.out _).mono ?_
  rintro e w2 ⟨rfl, rfl⟩
  clear hcn
  go_wp2_with fail
  go_at_call 17
  refine (hat.out _ _ (by simp only [World.size_alloc]; have := r0.out (w1.alloc (.cells (sigC s.size (.slice A1 2 c1) 2 s.last) 35)); rw [World.size_alloc] at this; exact this)).mono ?_
  rintro e w3 ⟨A3, c3, rfl, o3, g3⟩
  have n3 := blk_more (n1.out.alloc (.cells (bvs abc).toArray 5 (10, 11))) g3
  have x0 := n3.cell 0
  have x1 := n3.cell 1
  have x2 := n3.cell 2
  have x3 := n3.cell 3
  have x4 := n3.cell 4
  have x5 := n3.cell 5
  have o3' := Lib.hid o3.rb
  have o4 := Lib.hid (OS.below o1'.out (Gr.trans ((Gr.refl _).alloc (.cells (bvs abc).toArray 5 (10, 11))) g3))
  have G3 := Lib.hid (Gr.trans (G1.out.alloc _) g3)
  clear n1 n3 o3 g3 o1' G1
  go_wp2_with (first
    | (refine wpList_bytes_string rfl (.tmp 21) 26 9 5 rfl Try.underlying26 Bl.byteType.1 Try.underlying9 _ _ _ _ [105, 106] rfl rfl o3'.out ?_))
  refine (hpu.out _ (by have := o4.out; unfold OS at this; exact (OS.sr (E := 33) (base := (w.alloc (.cells (bvs abc).toArray 5 (10, 11))).heap.size) (c := c1) (by rw [hb]; exact this)))).mono ?_
  rintro e w4 ⟨v, rfl, ⟨A4, c4, rfl, _, _, r4⟩, g4⟩
  have G4 := Lib.hid (Gr.trans G3.out g4)
  have hl' : (20 : Int) < ((putB s).length : Int) := by have := hl.out; omega
  clear g4 r4
  go_wp2
  go_ret
  exact ⟨rfl, G4.out⟩
end Sg
end Go.Proofs.Ytcibngbgcnnjnaa

