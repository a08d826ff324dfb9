/- The walk of the document's Blocks. No condition but sizes. -/
import Derived.Test.YtcibngbgcnnjnaaBlkAt
import Derived.Test.YtcibngbgcnnjnaaRound
set_option linter.unusedVariables false
set_option linter.unusedSimpArgs false
namespace Go.Proofs.Ytcibngbgcnnjnaa
open Go Go.RowKit W
namespace Bl
theorem strRow : RowType Try.prog 9 1 16 := by
  obtain ⟨i, h1, h2, h3, h4⟩ := info_parts (show (Try.prog.info? 9).map (fun i => (i.zero, i.size, i.bytes)) = some (some (.string ⟨#[]⟩), 1, 16) by kernel_rfl)
  exact ⟨i, _, h1, h2, h3, h4, rfl, by omega⟩
theorem take_blocks (l : List UInt8) (h k : Nat) (hk : k < count l.length h) : ((blocks l h).take (k + 1)).map str = ((blocks l h).take k).map str ++ [str (at_ l h k)] := by
  have hk' : k < (blocks l h).length := by rw [blocks_len]; exact hk
  rw [List.take_succ_eq_append_getElem hk', blocks_get]
  simp
theorem new_str (w : World) (t : TypeId) (B : List UInt8) : Reads (w.alloc (.cells #[str B] t)) (w.heap.size + 1) 1 (some ⟨w.heap.size, 0, none⟩) 1 [str B] := by
  refine ⟨rfl, fun _ => ⟨_, rfl, Nat.lt_succ_self _, fun j u hu => ?_⟩⟩
  have ha : (⟨w.heap.size, 0, none⟩ : Addr).add j = ⟨w.heap.size, j, none⟩ := by unfold Addr.add; split <;> simp_all
  rw [ha, (Blk.new w t _).cell]
  simpa using hu
def OutS (w : World) (ls : List (List UInt8)) : Ending → World → Prop := fun e w' => ∃ A c, e = .returned (.slice A ls.length c) ∧ OR 9 1 w' w.heap.size (.slice A ls.length c) ls.length (ls.map str) ∧ Gr w w'
set_option maxRecDepth 100000 in
set_option maxHeartbeats 4000000 in
theorem refBlocks_any (l : List UInt8) (size : Int) (w : World) (hs : l.length ≤ 1000000) :
    Calls Try.prog 11 #[str l, .int .i64 size] w (OutS w (blocks l (hold size))) := by
  have hho := Lib.hid (fun w => refHold_any size w)
  have hp := hold_pos size
  generalize hold size = h at *
  have hcl := count_le l.length h (by omega)
  have hbl := blocks_len l h
  go_enter Try.func11, Try.ntmps11
  go_wp2
  go_loopw [5, 6, 7] (fun out i _ wr => ∃ k f : Nat, k ≤ count l.length h ∧ Hid (f = k * h) ∧ i = .int .i64 (f : Int) ∧ (∃ A0 c0, out = .slice A0 k c0 ∧ OR 9 1 wr w.heap.size (.slice A0 k c0) k (((blocks l h).take k).map str)) ∧ Gr w wr) (fun _ i _ _ => l.length - (intOf i).toNat)
  case atStart => exact ⟨0, 0, by omega, Lib.hid (by simp), rfl, ⟨none, 0, rfl, World.ownsRow_nil _ _ _ _⟩, Gr.refl w⟩
  case round =>
    obtain ⟨k, f, hk, hfH, rfl, ⟨A0, c0, rfl, ho⟩, hg⟩ := hrel
    have hf := hfH.out
    have hiff := count_lt (n := l.length) (h := h) (k := k) (by omega)
    rw [← hf] at hiff
    by_cases h0 : k < count l.length h
    · have hfl := hiff.1 h0
      have htb := Lib.hid (take_blocks l h k h0)
      have hat : at_ l h k = (l.drop f).take h := by unfold at_; rw [hf]
      have hfl' : (f : Int) < (l.length : Int) := by omega
      have hfn := Lib.hid (show f + h = (k + 1) * h by rw [hf, Nat.succ_mul])
      have i1 : (0 : Int) ≤ (f : Int) := by omega
      have i2 : (f : Int) ≤ (f : Int) + (h : Int) := by omega
      have i3 : (0 : Int) ≤ (f : Int) + (h : Int) := by omega
      clear hf
      have ho' := Lib.hid ho
      have hg' := Lib.hid hg
      clear ho hg hiff
      by_cases hmin : f + h ≤ l.length
      · have hm : ¬ (l.length : Int) < (f : Int) + (h : Int) := by omega
        have hm2 : (f : Int) + (h : Int) ≤ (l.length : Int) := by omega
        have hB : at_ l h k = (l.drop f).take h := hat
        rw [hB] at htb
        have oL := Lib.hid (World.ownsRow.alloc ho'.out (.cells #[str ((l.drop f).take h)] 9))
        have nL := Lib.hid (new_str wr 9 ((l.drop f).take h))
        have gL := Lib.hid (Gr.alloc hg'.out (.cells #[str ((l.drop f).take h)] 9))
        have hwr := Below.size hg'.out
        clear hat hB ho' hg'
        go_wp2_with fail
        go_at_call 8
        refine (hho.out _).mono ?_
        rintro e w1 ⟨rfl, rfl⟩
        go_wp2_with (first
          | ((with_reducible refine wpList_isApp (.tmp 26) (.tmp 31) 37 rfl ?_); refine wpList_append_rowsN (v := .slice A0 k c0) rfl (.tmp 26) (.tmp 31) 37 rfl Try.underlying37 strRow rfl (by exact oL.out) (w1.heap.size + 1) _ 1 1 [str ((l.drop f).take h)] rfl (by exact nL.out) (by simp [Value.oneCell']) (by unfold maxLen; omega) (by omega) (by rw [World.size_alloc]; omega) (((blocks l h).take (k + 1)).map str) htb.out (k + 1) rfl ?_; intro A9 c9 w9 o9 b9; have g9 := Lib.hid (Below.trans gL.out b9); have o9 := Lib.hid o9; clear oL nL gL b9))
        go_at_call 8
        refine (hho.out _).mono ?_
        rintro e w2 ⟨rfl, rfl⟩
        go_wp2
        go_roundw
        case rel => exact ⟨k + 1, f + h, by omega, hfn, by simp, ⟨A9, c9, rfl, o9.out⟩, g9.out⟩
        case measure => simp [intOf]; omega
      · have hm : (l.length : Int) < (f : Int) + (h : Int) := by omega
        have i4 : (f : Int) ≤ (l.length : Int) := by omega
        have hB : at_ l h k = (l.drop f).take (l.length - f) := by rw [hat, List.take_of_length_le (by simp; omega), List.take_of_length_le (by simp)]
        rw [hB] at htb
        have oL := Lib.hid (World.ownsRow.alloc ho'.out (.cells #[str ((l.drop f).take (l.length - f))] 9))
        have nL := Lib.hid (new_str wr 9 ((l.drop f).take (l.length - f)))
        have gL := Lib.hid (Gr.alloc hg'.out (.cells #[str ((l.drop f).take (l.length - f))] 9))
        have hwr := Below.size hg'.out
        clear hat hB ho' hg'
        go_wp2_with fail
        go_at_call 8
        refine (hho.out _).mono ?_
        rintro e w1 ⟨rfl, rfl⟩
        go_wp2_with (first
          | ((with_reducible refine wpList_isApp (.tmp 26) (.tmp 31) 37 rfl ?_); refine wpList_append_rowsN (v := .slice A0 k c0) rfl (.tmp 26) (.tmp 31) 37 rfl Try.underlying37 strRow rfl (by exact oL.out) (w1.heap.size + 1) _ 1 1 [str ((l.drop f).take (l.length - f))] rfl (by exact nL.out) (by simp [Value.oneCell']) (by unfold maxLen; omega) (by omega) (by rw [World.size_alloc]; omega) (((blocks l h).take (k + 1)).map str) htb.out (k + 1) rfl ?_; intro A9 c9 w9 o9 b9; have g9 := Lib.hid (Below.trans gL.out b9); have o9 := Lib.hid o9; clear oL nL gL b9))
        go_at_call 8
        refine (hho.out _).mono ?_
        rintro e w2 ⟨rfl, rfl⟩
        go_wp2
        go_roundw
        case rel => exact ⟨k + 1, f + h, by omega, hfn, by simp, ⟨A9, c9, rfl, o9.out⟩, g9.out⟩
        case measure => simp [intOf]; omega
    · obtain rfl : k = count l.length h := by omega
      have h1 : ¬ (f : Int) < (l.length : Int) := by
        intro h2
        exact h0 (hiff.2 (by omega))
      rw [← hbl, List.take_length] at ho
      replace ho := Lib.hid ho
      replace hbl := Lib.hid hbl
      clear hf
      go_wp2
      go_ret
      exact ⟨A0, c0, by rw [hbl.out]; rfl, ho.out, hg⟩
end Bl
end Go.Proofs.Ytcibngbgcnnjnaa

