/- The walk of the document's Step. No condition but sizes. -/
import Derived.Test.YtgnogoghfendpaaPatStep
set_option linter.unusedVariables false
set_option linter.unusedSimpArgs false
namespace Go.Proofs.Ytgnogoghfendpaa
open Go Go.RowKit W Bl Tk
namespace Pt
theorem pstep_len (old : List UInt8) (size : Int) (t : Tok) : (pstep old size t).1.length ≤ 300000 := by
  cases hr : right t
  · rw [pstep_bad hr]; simp
  · obtain ⟨p1, p2, p3, p4, p5⟩ := right_spec hr
    by_cases hm : t.m = 0
    · rw [pstep_lit hr hm]
      have := (right_fit hr).2
      simp only
      omega
    · by_cases hc : count old.length (hold size) < t.f.toNat + t.m.toNat
      · rw [pstep_none hr hm hc]; simp
      · rw [pstep_some hr hm hc]
        have h1 := many_len old (hold size) t.f.toNat t.m.toNat
        have h2 : t.m.toNat * hold size ≤ 4097 * 64 := Nat.mul_le_mul (by omega) (hold_pos size).2
        simp only
        omega
def OutR (w : World) (r : List UInt8 × Nat) : Ending → World → Prop := fun e w' => e = .returned (.tuple #[str r.1, .int .i64 (r.2 : Int)]) ∧ Gr w w'
set_option maxRecDepth 100000 in
set_option maxHeartbeats 4000000 in
theorem refStep_any (l : List UInt8) (size : Int) (t : Tok) (w : World) (hs : l.length ≤ 1000000) (hf : Fit t) :
    Calls Try.prog 12 #[str l, .int .i64 size, tokV t] w (OutR w (pstep l size t)) := by
  have hro := Lib.hid (fun w => refRight_any t w hf)
  have bx := Lib.hid (Blk.new w 37 #[.int .i64 t.f, .int .i64 t.m, .string ⟨t.d.toArray⟩])
  have g0 := Lib.hid ((Gr.refl w).alloc (.cells #[.int .i64 t.f, .int .i64 t.m, .string ⟨t.d.toArray⟩] 37))
  cases hrt : right t
  · rw [pstep_bad hrt]
    rw [hrt] at hro
    go_enter Try.func12, Try.ntmps12
    go_wp2_with fail
    go_at_call 25
    refine (hro.out _).mono ?_
    rintro e w1 ⟨rfl, g1⟩
    have G1 := Lib.hid (Gr.trans g0.out g1)
    clear g1 g0 hro bx
    go_wp2
    go_ret2
    exact ⟨rfl, G1.out⟩
  · rw [hrt] at hro
    obtain ⟨p1, p2, p3, p4, p5⟩ := right_spec hrt
    by_cases hm : t.m = 0
    · rw [pstep_lit hrt hm]
      obtain ⟨f, m, d⟩ := t
      simp only at hm bx g0 hro
      subst hm
      go_enter Try.func12, Try.ntmps12
      go_wp2_with fail
      go_at_call 25
      refine (hro.out _).mono ?_
      rintro e w1 ⟨rfl, g1⟩
      have G1 := Lib.hid (Gr.trans g0.out g1)
      have b1 := blk_more bx.out g1
      have x1 := b1.cell 1
      have x2 := b1.cell 2
      clear g1 g0 hro bx b1
      go_wp2
      go_ret2
      exact ⟨rfl, G1.out⟩
    · obtain ⟨r, hr0⟩ : ∃ r, pstep l size t = r := ⟨_, rfl⟩
      rw [hr0]
      go_enter Try.func12, Try.ntmps12
      go_wp2_with fail
      go_at_call 25
      refine (hro.out _).mono ?_
      rintro e w1 ⟨rfl, g1⟩
      have G1 := Lib.hid (Gr.trans g0.out g1)
      have b1 := blk_more bx.out g1
      have x1 := b1.cell 1
      have bx := Lib.hid b1
      clear g1 g0 hro b1
      have hrb := Lib.hid (fun w => refBlocks_any l size w hs)
      have hbat := Lib.hid (blocks_len l (hold size))
      have hbg : ∀ k, k < count l.length (hold size) → ((blocks l (hold size)).map str)[k]? = some (str (at_ l (hold size) k)) := fun k hk => by
        have hk' : k < (blocks l (hold size)).length := by rw [blocks_len]; exact hk
        rw [List.getElem?_map, List.getElem?_eq_getElem hk', blocks_get]
        rfl
      replace hbg := Lib.hid hbg
      have hr6 : count l.length (hold size) < t.f.toNat + t.m.toNat → r = ([], 6) := fun h => hr0.symm.trans (pstep_none hrt hm h)
      have hr7 : ¬ count l.length (hold size) < t.f.toNat + t.m.toNat → r = (many l (hold size) t.f.toNat t.m.toNat, 0) := fun h => hr0.symm.trans (pstep_some hrt hm h)
      have hmN : t.m = (t.m.toNat : Int) := by omega
      have hfN : t.f = (t.f.toNat : Int) := by omega
      have hms := Lib.hid (fun k => many_succ l (hold size) t.f.toNat k)
      have hm0 := Lib.hid (many_zero l (hold size) t.f.toNat)
      have hh64 := Lib.hid (hold_pos size).2
      have hcn := Lib.hid (count_le l.length (hold size) (by have := (hold_pos size).1; omega))
      obtain ⟨f, m, d⟩ := t
      simp only at hm p1 p2 p3 p4 hmN hfN hms bx x1 hr6 hr7 hm0
      generalize m.toNat = tm at *
      generalize f.toNat = tf at *
      have hmH := Lib.hid hmN
      have hfH := Lib.hid hfN
      have hm' : (m == 0) = false := by rw [beq_eq_false_iff_ne]; exact hm
      have htm : 0 < m := by omega
      generalize hold size = hh at *
      generalize count l.length hh = cn at *
      replace hr6 := Lib.hid hr6
      replace hr7 := Lib.hid hr7
      clear p5 hm hrt hmN hfN hf hr0
      go_wp2_with fail
      go_at_call 16
      refine (hrb.out _).mono ?_
      rintro e w2 ⟨A2, c2, rfl, o2, g2⟩
      rw [hbat.out] at o2 ⊢
      have rd2 := Lib.hid (OR.reads o2)
      have G2 := Lib.hid (Gr.trans G1.out g2)
      have b2 := blk_more bx.out g2
      have x0 := b2.cell 0
      clear x1
      have bx2 := Lib.hid b2
      clear o2 g2 b2 bx hrb G1
      go_wp2
      go_loopw [9, 10] (fun o i wr => ∃ k : Nat, k ≤ tm ∧ (k = 0 ∨ tf + k ≤ cn) ∧ i = .int .i64 ((tf + k : Nat) : Int) ∧ o = str (many l hh tf k) ∧ Gr w2 wr) (fun _ i _ => tf + tm - (intOf i).toNat)
      case atStart => exact ⟨0, by omega, .inl rfl, by rw [hfH.out]; simp, by rw [hm0.out], Gr.refl w2⟩
      case round =>
        obtain ⟨k, hk, hc0, rfl, rfl, hg⟩ := hrel
        have b3 := blk_more bx2.out hg
        have y0 := b3.cell 0
        have y1 := b3.cell 1
        have hgh := Lib.hid hg
        have hjb : Hid (tf + k ≤ 4097) := Lib.hid (by have := hmH.out; have := hfH.out; omega)
        have hjm : ((tf + k : Nat) : Int) < f + m ↔ k < tm := by have := hmH.out; have := hfH.out; omega
        have hc2 := Lib.hid hc0
        have hk' := Lib.hid hk
        have hms' := Lib.hid (hms.out k)
        have hre := Lib.hid ((rd2.out.below hg).more hg.size)
        clear hc0 hk b3 hg x0
        obtain ⟨j, hj⟩ : ∃ j, tf + k = j := ⟨_, rfl⟩
        rw [hj] at hjm hjb ⊢
        have hjH := Lib.hid hj
        clear hj
        by_cases h : k < tm
        · have hki := hjm.2 h
          clear hjm
          have hjb' := hjb.out
          have hcl := hcn.out
          by_cases hin : j < cn
          · have hin' : (j : Int) < (cn : Int) := by omega
            have hin2 : ¬ (cn : Int) ≤ (j : Int) := by omega
            have hl1 : (many l hh tf k).length ≤ 4097 * 64 := Nat.le_trans (many_len _ _ _ _) (Nat.mul_le_mul (by have := hk'.out; have := hmH.out; omega) hh64.out)
            have hl2 : (at_ l hh j).length ≤ 64 := Nat.le_trans (at_len _ _ _) hh64.out
            have hbj := hbg.out j hin
            obtain ⟨ad, u, hA, hB, hu, hcell⟩ := hre.out.at_ (by exact hin)
            obtain rfl : str (at_ l hh j) = u := Option.some.inj (hbj.symm.trans hu)
            rw [hjH.out] at hms'
            subst hA
            clear hbj hu hre h hB
            go_wp2
            go_roundw
            case rel => exact ⟨k + 1, by have := hk'.out; have := hjH.out; have := hmH.out; have := hfH.out; omega, .inr (by have := hjH.out; omega), by have := hjH.out; simp; omega, by rw [hms'.out], hgh.out⟩
            case measure => have := hjH.out; have := hmH.out; have := hfH.out; simp [intOf]; omega
          · have hin' : ¬ (j : Int) < (cn : Int) := by omega
            obtain rfl : r = ([], 6) := hr6.out (by have := hjH.out; omega)
            have hin2 : (cn : Int) ≤ (j : Int) := by omega
            clear hre hr6 hr7
            go_wp2
            go_ret2
            exact ⟨rfl, Gr.trans G2.out hgh.out⟩
        · have hki : ¬ (j : Int) < f + m := fun h' => h (hjm.1 h')
          clear hjm
          obtain rfl : k = tm := by have := hk'.out; omega
          have hjb' := hjb.out
          obtain rfl : r = (many l hh tf k, 0) := hr7.out (by have := hc2.out; have := hmH.out; have := hfH.out; omega)
          clear hr6 hr7 hre h
          go_wp2
          go_ret2
          exact ⟨rfl, Gr.trans G2.out hgh.out⟩
end Pt
end Go.Proofs.Ytgnogoghfendpaa

