/- The walk of FrameTurned. No condition but that the sums' table is laid. -/
import Derived.Test.YtgkcbhijkcbjkaaDoorFrmLawG
set_option linter.unusedVariables false
set_option linter.unusedSimpArgs false
namespace Go.Proofs.YtgkcbhijkcbjkaaDoor
open Go Go.RowKit W Vint Crc
namespace Fm
theorem getF_turned {f : Frm} (h : right f = true) (a : Int) (m : UInt32) (hne : turned (putF f) a m ≠ putF f) : getF (turned (putF f) a m) = (zero, 12) := by
  have e : putF f = sealed (body f) := by unfold putF; rw [if_pos h]
  rw [e] at hne ⊢
  have := finds (body f) a m hne
  unfold getF
  rw [this]
  simp
theorem run_eql_zero (x y : Operand) (w : World) : (do eqGuard .eql 26 x y (frmV zero) (frmV zero); binOp .eql 26 (frmV zero) (frmV zero) : Sem Value).run Tryd.prog w = .ok (.bool true) w := by
  simp [go_sem, zero]
set_option maxRecDepth 100000 in
set_option maxHeartbeats 4000000 in
theorem frameTurned_walk (f : Frm) (a : Int) (m : UInt32) (w : World) (hd : f.d.length ≤ maxLen) (ha1 : -9223372036854775808 ≤ a) (ha2 : a ≤ 9223372036854775807) (hH0 : Halves w) :
    Calls Tryd.prog 5 #[frmV f, .int .i64 a, .int .u32 (n32 m)] w (Ret (eqv (.bool true)) w) := by
  unfold maxLen at hd
  have g0 := (Gr.refl w).alloc (.cells (fc f) 30)
  have hH := Lib.hid (hH0.gr hH0.lt g0)
  have bx := Lib.hid (Blk.new w 30 (fc f))
  have G0 := Lib.hid g0
  clear g0 hH0
  by_cases h300 : f.d.length ≤ 300
  · have h300' : ¬ (300 : Int) < (f.d.length : Int) := by omega
    have hro := Lib.hid (fun w => refRight_any f w (by omega))
    cases hr : right f
    · rw [hr] at hro
      go_enter Tryd.func5, Tryd.ntmps5
      go_wp2_with fail
      go_at_call 15
      refine (hro.out _).mono ?_
      rintro e w1 ⟨rfl, g1⟩
      have G1 := Lib.hid (Gr.trans G0.out g1)
      have hH := Lib.hid (hH.out.gr hH.out.lt g1)
      clear g1 hro bx
      have haw := Lib.hid (awake_any w1 hH.out)
      go_wp2_with fail
      go_at_call 6
      refine haw.out.mono ?_
      rintro e w2 ⟨rfl, g2⟩
      have G2 := Lib.hid (Gr.trans G1.out g2)
      clear g2 haw
      go_wp2
      go_ret
      exact ⟨_, rfl, rfl, G2.out⟩
    · rw [hr] at hro
      have hpl : (putF f).length ≤ 1000000 := by
        have := body_le hr
        unfold putF
        rw [if_pos hr, sealed_length]
        omega
      have hput := Lib.hid (fun w => put_any f w (by omega))
      have hgp := getF_put hr
      have hgt := getF_turned hr a m
      have htl := turned_length (putF f) a m
      generalize putF f = P at *
      go_enter Tryd.func5, Tryd.ntmps5
      go_wp2_with fail
      go_at_call 15
      refine (hro.out _).mono ?_
      rintro e w1 ⟨rfl, g1⟩
      have G1 := Lib.hid (Gr.trans G0.out g1)
      have hH := Lib.hid (hH.out.gr hH.out.lt g1)
      have bx' := blk_more bx.out g1
      have x0 := bx'.cell 0
      have x1 := bx'.cell 1
      have x2 := bx'.cell 2
      have x3 := bx'.cell 3
      have bx := Lib.hid bx'
      have hto := Lib.hid (to_any f w1)
      clear g1 hro G0 bx'
      replace hgp := Lib.hid hgp
      replace hgt := Lib.hid hgt
      replace htl := Lib.hid htl
      go_wp2_with fail
      go_at_call 12
      refine hto.out.mono ?_
      rintro e w2 ⟨rfl, g2⟩
      have G2 := Lib.hid (Gr.trans G1.out g2)
      have hH := Lib.hid (hH.out.gr hH.out.lt g2)
      have bx := Lib.hid (blk_more bx.out g2)
      have hp := Lib.hid (hput.out w2 hH.out)
      clear g2 G1 hto hput x0 x1 x2 x3
      go_wp2_with fail
      go_at_call 11
      refine hp.out.mono ?_
      rintro e w3 ⟨v, rfl, ⟨A3, c3, rfl, hc3, hm3, r3⟩, g3⟩
      have G3 := Lib.hid (Gr.trans G2.out g3)
      have hH := Lib.hid (hH.out.gr hH.out.lt g3)
      have bx := Lib.hid (blk_more bx.out g3)
      have htu := Lib.hid (turn_any A3 c3 P a m w3 (by omega) hc3 hm3 ha1 ha2 r3)
      have r3 := Lib.hid r3
      clear g3 G2 hp
      go_wp2_with fail
      go_at_call 18
      refine htu.out.mono ?_
      rintro e w4 ⟨v, rfl, o4, g4⟩
      obtain ⟨A4, c4, rfl, hc4, hm4⟩ := o4.shape
      have G4 := Lib.hid (Gr.trans G3.out g4)
      have hH := Lib.hid (hH.out.gr hH.out.lt g4)
      have bx := Lib.hid (blk_more bx.out g4)
      have r3 := Lib.hid ((r3.out.below g4).more (Below.size g4))
      have r4 := Lib.hid o4.rb
      have hxl : (turned P a m).length ≤ 1000000 := by rw [htl.out]; exact hpl
      have hge := Lib.hid (get_any A4 c4 (turned P a m) w4 hxl hc4 hm4 r4.out hH.out)
      clear g4 G3 htu o4
      by_cases hx : turned P a m = P
      · have hge' := hge.out
        rw [hx, hgp.out] at hge'
        have hge := Lib.hid hge'
        rw [hx] at r4 ⊢
        clear hge' hgt
        go_wp2_with fail
        go_at_call 7
        refine hge.out.mono ?_
        rintro e w5 ⟨rfl, g5⟩
        have g5' := g5.alloc (.cells (fc f) 26)
        have G5 := Lib.hid (Gr.trans G4.out g5')
        have hH := Lib.hid (hH.out.gr hH.out.lt g5')
        have bx := Lib.hid (blk_more bx.out g5')
        have r3 := Lib.hid ((r3.out.below g5').more g5'.size)
        have r4 := Lib.hid ((r4.out.below g5').more g5'.size)
        have by5 := Lib.hid (Blk.new w5 26 (fc f))
        clear g5 g5' G4 hge
        go_wp2_with (first
          | (refine wpList_bytes_string rfl (.tmp 33) 22 9 5 rfl Tryd.underlying22 Vint.byteType.1 Tryd.underlying9 _ _ _ _ P rfl rfl r4.out ?_)
          | (refine wpList_bytes_string rfl (.tmp 35) 22 9 5 rfl Tryd.underlying22 Vint.byteType.1 Tryd.underlying9 _ _ _ _ P rfl rfl r3.out ?_))
        go_at_call 6
        refine (awake_any _ hH.out).mono ?_
        rintro e w6 ⟨rfl, g6⟩
        have G6 := Lib.hid (Gr.trans G5.out g6)
        have bx6 := blk_more bx.out g6
        have by6 := blk_more by5.out g6
        have x0 := bx6.cell 0
        have x1 := bx6.cell 1
        have x2 := bx6.cell 2
        have x3 := bx6.cell 3
        have y0 := by6.cell 0
        have y1 := by6.cell 1
        have y2 := by6.cell 2
        have y3 := by6.cell 3
        clear g6 G5 bx6 by6 r3 r4 bx by5
        go_wp2_with fail
        go_at_call 10
        refine (is_same f _).mono ?_
        rintro e w7 ⟨rfl, g7⟩
        have G7 := Lib.hid (Gr.trans G6.out g7)
        clear g7 G6 x0 x1 x2 x3 y0 y1 y2 y3
        go_wp2
        go_ret
        exact ⟨_, rfl, rfl, G7.out⟩
      · have hge' := hge.out
        rw [hgt.out hx] at hge'
        have hge := Lib.hid hge'
        clear hge' hgp hgt
        have hx' : ¬ turned P a m = P := hx
        generalize turned P a m = X at *
        have hx2 : (X == P) = false := by simpa using hx'
        clear hx
        have hge := Lib.hid (show Calls Tryd.prog 7 #[.slice A4 X.length c4] w4 fun e w' => e = .returned (.tuple #[.agg #[.int .i64 0, .int .u64 0, .int .u64 0, .string ⟨#[]⟩], .int .i64 12]) ∧ Gr w4 w' from hge.out)
        go_wp2_with fail
        go_at_call 7
        refine hge.out.mono ?_
        rintro e w5 ⟨rfl, g5⟩
        have g5' := g5.alloc (.cells zc 26)
        have G5 := Lib.hid (Gr.trans G4.out g5')
        have hH := Lib.hid (hH.out.gr hH.out.lt g5')
        have r3 := Lib.hid ((r3.out.below g5').more g5'.size)
        have r4 := Lib.hid ((r4.out.below g5').more g5'.size)
        have by5 := Lib.hid (Blk.new w5 26 zc)
        clear g5 g5' G4 hge bx
        go_wp2_with (first
          | (refine wpList_bytes_string rfl (.tmp 33) 22 9 5 rfl Tryd.underlying22 Vint.byteType.1 Tryd.underlying9 _ _ _ _ X rfl rfl r4.out ?_)
          | (refine wpList_bytes_string rfl (.tmp 35) 22 9 5 rfl Tryd.underlying22 Vint.byteType.1 Tryd.underlying9 _ _ _ _ P rfl rfl r3.out ?_))
        go_at_call 6
        refine (awake_any _ hH.out).mono ?_
        rintro e w6 ⟨rfl, g6⟩
        have G6 := Lib.hid (Gr.trans G5.out g6)
        have by6 := blk_more by5.out g6
        have y0 := by6.cell 0
        have y1 := by6.cell 1
        have y2 := by6.cell 2
        have y3 := by6.cell 3
        clear g6 G5 by6 r3 r4 by5
        go_wp2
        go_ret
        exact ⟨_, rfl, rfl, G6.out⟩
  · have h300' : (300 : Int) < (f.d.length : Int) := by omega
    have x3 := bx.out.cell 3
    go_enter Tryd.func5, Tryd.ntmps5
    go_wp2_with fail
    go_at_call 6
    refine (awake_any _ hH.out).mono ?_
    rintro e w2 ⟨rfl, g2⟩
    have G2 := Lib.hid (Gr.trans G0.out g2)
    clear g2 x3 bx
    go_wp2
    go_ret
    exact ⟨_, rfl, rfl, G2.out⟩
end Fm
end Go.Proofs.YtgkcbhijkcbjkaaDoor
