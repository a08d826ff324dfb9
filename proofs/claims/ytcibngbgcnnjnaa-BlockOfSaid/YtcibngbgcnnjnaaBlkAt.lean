/- The walk of block.At. No condition but sizes. -/
import Derived.Test.YtcibngbgcnnjnaaBlkWalk
set_option linter.unusedVariables false
set_option linter.unusedSimpArgs false
namespace Go.Proofs.Ytcibngbgcnnjnaa
open Go Go.RowKit W
namespace Bl
set_option maxRecDepth 100000 in
set_option maxHeartbeats 2000000 in
theorem at_any (A : Option Addr) (c : Nat) (l : List UInt8) (size : Int) (k : Nat) (w : World) (hs : l.length ≤ 1000000) (hc : l.length ≤ c) (hr : RB w w.heap.size A l) (hk : k < count l.length (hold size)) :
    Calls Try.prog 17 #[.slice A l.length c, .int .i64 size, .int .i64 (k : Int)] w (Out 5 w (at_ l (hold size) k)) := by
  have hcn := Lib.hid (count_any l.length size w (by omega))
  have hho := Lib.hid (fun w => hold_any size w)
  have hp := hold_pos size
  generalize hold size = h at *
  have hkl := (count_lt (by omega)).1 hk
  have hle := count_le l.length h (by omega)
  obtain ⟨f, hf⟩ : ∃ f, f = k * h := ⟨_, rfl⟩
  have hfi : (k : Int) * (h : Int) = (f : Int) := by rw [hf, Int.natCast_mul]
  rw [← hf] at hkl
  have hat : at_ l h k = (l.drop f).take h := by unfold at_; rw [hf]
  have hcf : ¬ c = f := by omega
  have hrf := hr.drop (k := f) (by omega) hc
  rw [if_neg hcf] at hrf
  rw [hat]
  have hown0 := Lib.hid (OB.made (E := 5) (base := w.heap.size) w (Nat.le_refl _))
  have g0 := Lib.hid ((Gr.refl w).alloc (.cells #[] 5))
  have i2 : (k : Int) < (count l.length h : Int) := by omega
  clear hr hf hat hk
  by_cases hmin : f + h ≤ l.length
  · have hB : ∃ B, B = (l.drop f).take h ∧ B.length = h := ⟨_, rfl, by simp; omega⟩
    obtain ⟨B, hB, hBl⟩ := hB
    have hrd := hrf.take (k := h) (by simp; omega)
    have hm : (f : Int) + (h : Int) ≤ (l.length : Int) := by omega
    have hci : (f : Int) + (h : Int) ≤ (c : Int) := by omega
    rw [← hB] at hrd ⊢
    have hrd' := Lib.hid (hrd.alloc (Nat.le_refl _) (.cells #[] 5))
    clear hrd hB hrf
    replace hBl := Lib.hid hBl
    go_enter Try.func17, Try.ntmps17
    go_wp2_with fail
    go_at_call 7
    refine hcn.out.mono ?_
    rintro e w1 ⟨rfl, rfl⟩
    clear hcn
    go_wp2_with fail
    go_at_call 27
    refine (hho.out _).mono ?_
    rintro e w1 ⟨rfl, rfl⟩
    go_wp2_with fail
    go_at_call 27
    refine (hho.out _).mono ?_
    rintro e w1 ⟨rfl, rfl⟩
    clear hho
    go_wp2_with (first
      | ((with_reducible refine wpList_isApp (.tmp 22) (.tmp 32) 26 rfl ?_); refine wpList_append_bytes _ rfl (.tmp 22) (.tmp 32) 26 rfl w1.heap.size 5 Try.underlying26 byteType _ [] rfl (by exact hown0.out) w1.heap.size _ _ _ B rfl ?hn ?hr ?hl ?hb B rfl B.length rfl ?hgo; (case hn => first | exact hBl.out.symm | (have := hBl.out; omega)); (case hr => exact hrd'.out); (case hl => (simp only [List.length_nil]; have := hBl.out; omega)); (case hb => simp); intro A9 c9 w9 o9 b9))
    go_ret
    exact ⟨A9, c9, rfl, o9, Below.trans g0.out b9⟩
  · have hB : ∃ B, B = (l.drop f).take h ∧ B.length = l.length - f := ⟨_, rfl, by simp; omega⟩
    obtain ⟨B, hB, hBl⟩ := hB
    have hrd := hrf
    rw [show l.drop f = (l.drop f).take h from (List.take_of_length_le (by simp; omega)).symm] at hrd
    have hm : ¬ (f : Int) + (h : Int) ≤ (l.length : Int) := by omega
    rw [← hB] at hrd ⊢
    have hrd' := Lib.hid (hrd.alloc (Nat.le_refl _) (.cells #[] 5))
    clear hrd hB hrf
    replace hBl := Lib.hid hBl
    go_enter Try.func17, Try.ntmps17
    go_wp2_with fail
    go_at_call 7
    refine hcn.out.mono ?_
    rintro e w1 ⟨rfl, rfl⟩
    clear hcn
    go_wp2_with fail
    go_at_call 27
    refine (hho.out _).mono ?_
    rintro e w1 ⟨rfl, rfl⟩
    go_wp2_with fail
    go_at_call 27
    refine (hho.out _).mono ?_
    rintro e w1 ⟨rfl, rfl⟩
    clear hho
    go_wp2_with (first
      | ((with_reducible refine wpList_isApp (.tmp 22) (.tmp 32) 26 rfl ?_); refine wpList_append_bytes _ rfl (.tmp 22) (.tmp 32) 26 rfl w1.heap.size 5 Try.underlying26 byteType _ [] rfl (by exact hown0.out) w1.heap.size _ _ _ B rfl ?hn2 ?hr2 ?hl2 ?hb2 B rfl B.length rfl ?hgo2; (case hn2 => first | exact hBl.out.symm | (have := hBl.out; omega)); (case hr2 => exact hrd'.out); (case hl2 => (simp only [List.length_nil]; have := hBl.out; omega)); (case hb2 => simp); intro A9 c9 w9 o9 b9))
    go_ret
    exact ⟨A9, c9, rfl, o9, Below.trans g0.out b9⟩
end Bl
end Go.Proofs.Ytcibngbgcnnjnaa

