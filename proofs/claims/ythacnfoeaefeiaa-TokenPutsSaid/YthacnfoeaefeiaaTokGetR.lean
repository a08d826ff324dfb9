/- The walk of the document's Get. No condition but sizes. -/
import Derived.Test.YthacnfoeaefeiaaTokGet
import Derived.Test.YthacnfoeaefeiaaTokRef
import Derived.Test.YthacnfoeaefeiaaVintRefE
import Derived.BigQuiet
set_option linter.unusedVariables false
set_option linter.unusedSimpArgs false
namespace Go.Proofs.Ythacnfoeaefeiaa
open Go Go.RowKit W Vint
theorem wpList_isStore {P : Program} {w : World} {ops : Array Oper} {rest : List Oper} {o : Oper} {a : Act} {Q : Exit → Act → World → Prop} (T : TypeId) (x y : Operand)
    (ho : o.op = .store T x y) (h : wpList P ops Q (o :: rest) a w) : wpList P ops Q (o :: rest) a w := h
namespace Tk
theorem rdInfo {a b : Value} : (Try.prog.info? 64).map (·.size) = some (#[a, b] : Array Value).size := by kernel_rfl
def OutGR (w : World) (r : List Tok × Nat) : Ending → World → Prop := fun e w' => ∃ A c, e = .returned (.tuple #[.slice A r.1.length c, .int .i64 (r.2 : Int)]) ∧ OT 37 w' w.heap.size (.slice A r.1.length c) r.1 ∧ Gr w w'
structure GR (w wr : World) (R : List Tok × Nat) (L : Nat) (v : Value) : Prop where
  inv : ∃ n sl out A c, v = .slice A out.length c ∧ sl.length < n ∧ getsF n (sl, 0) out = R ∧ out.length + sl.length ≤ L ∧ OT 37 wr (w.heap.size + 1) (.slice A out.length c) out ∧ Blk wr w.heap.size 64 #[.string ⟨sl.toArray⟩, .int .i64 0] ∧ Gr w wr
def leftR (w wr : World) : Nat := match wr.cell? ⟨w.heap.size, 0, none⟩ with | some (.string s) => s.size | _ => 0
theorem leftR_eq {w wr : World} {sl : List UInt8} {u : Value} (h : Blk wr w.heap.size 64 #[.string ⟨sl.toArray⟩, u]) : leftR w wr = sl.length := by
  unfold leftR
  have : wr.cell? ⟨w.heap.size, 0, none⟩ = some (.string ⟨sl.toArray⟩) := h.cell 0
  rw [this]
  show sl.toArray.size = sl.length
  simp
set_option maxRecDepth 100000 in
set_option maxHeartbeats 8000000 in
theorem refGetw_any (l : List UInt8) (w : World) (hs : l.length ≤ 1000000) :
    Calls Try.prog 21 #[str l] w (OutGR w (gets l)) := by
  obtain ⟨R, hR⟩ : ∃ R, R = gets l := ⟨_, rfl⟩
  rw [← hR]
  have hR' := Lib.hid hR
  clear hR
  have rb0 := Lib.hid (Blk.new w 64 #[.string ⟨l.toArray⟩, .int .i64 0])
  have g0 := Lib.hid ((Gr.refl w).alloc (.cells #[.string ⟨l.toArray⟩, .int .i64 0] 64))
  go_enter Try.func21, Try.ntmps21
  go_wp2
  go_loopw [5, 6, 7, 8, 9, 10, 11, 12] (fun out _ _ _ _ _ _ _ wr => GR w wr R l.length out) (fun _ _ _ _ _ _ _ _ wr => leftR w wr)
  case atStart => exact ⟨l.length + 1, l, [], none, 0, rfl, by omega, hR'.out.symm, by simp, OT.nil_ _ _ _, rb0.out, g0.out⟩
  case round =>
    obtain ⟨n, sl, out, A0, c0, rfl, hn, hF, hlen, ho, hB, hg⟩ := hrel.inv
    clear hrel rb0 g0
    obtain ⟨m, rfl, hF2⟩ := getsF_at n sl out R hn hF
    have hF := hF2
    clear hF2
    have hlo := leftR_eq hB
    have hszr := Below.size hg
    have hwl := hB.lt
    have q0 := hB.cell 0
    have q1 := hB.cell 1
    have hB' := Lib.hid hB
    have ho' := Lib.hid ho
    have hg' := Lib.hid hg
    clear hB ho hg
    by_cases h0 : sl.length = 0
    · rw [if_pos h0] at hF
      subst hF
      have h0' : ¬ (0 : Int) < (sl.length : Int) := by omega
      go_wp2
      go_ret2
      exact ⟨A0, c0, rfl, OR.base_le ho'.out (by omega), hg'.out⟩
    · rw [if_neg h0] at hF
      have h0' : (0 : Int) < (sl.length : Int) := by omega
      have hsl6 : sl.length ≤ 1000000 := by omega
      have hbd := oneT_bounds (sl, 0)
      have hst := oneT_stops sl
      have hls := oneT_less sl
      have hle := get_le (sl, 0) 4097
      have hgl := get_len (sl, 0) 4097
      obtain ⟨q, hq⟩ : ∃ q, q = oneT (sl, 0) := ⟨_, rfl⟩
      rw [← hq] at hF hbd hst hls
      unfold oneT at hq
      have k0 := Lib.hid ((Kb.refl w.heap.size wr).alloc (.cells #[.int .i64 0, .int .i64 0, .string ⟨#[]⟩] 37))
      have bt := Lib.hid (Blk.new wr 37 #[.int .i64 0, .int .i64 0, .string ⟨#[]⟩])
      have bb := Lib.hid (hB'.out.alloc (.cells #[.int .i64 0, .int .i64 0, .string ⟨#[]⟩] 37))
      have hc1 := Lib.hid (refInt_any (sl, 0) 4097 (wr.alloc (.cells #[.int .i64 0, .int .i64 0, .string ⟨#[]⟩] 37)) (by omega) (by simp only []; omega))
      have e4 : (4097 : Int).toNat = 4097 := rfl
      have e5 : (16384 : Int).toNat = 16384 := rfl
      rw [e4] at hc1
      generalize get (sl, 0) 4097 = r1 at *
      obtain ⟨s1, mm⟩ := r1
      simp only at hle hgl hq
      clear hB'
      go_wp2_with fail
      go_at_call 34
      refine hc1.out.mono ?_
      rintro e w2 ⟨rfl, g2⟩
      have B3 := Lib.hid ((blk_more bb.out g2).alloc (.cells #[.string ⟨s1.1.toArray⟩, .int .i64 (s1.2 : Int)] 64))
      have T3 := Lib.hid ((blk_more bt.out g2).alloc (.cells #[.string ⟨s1.1.toArray⟩, .int .i64 (s1.2 : Int)] 64))
      have K3 := Lib.hid ((k0.out.gr g2).alloc (.cells #[.string ⟨s1.1.toArray⟩, .int .i64 (s1.2 : Int)] 64))
      clear hc1 q0 q1 bb bt k0 g2
      by_cases hm : 0 < mm
      · rw [if_pos hm] at hq
        have hm' : (0 : Int) < (mm : Int) := by omega
        have hle2 := get_le s1 4097
        have hgl2 := get_len s1 4097
        have hc2 := Lib.hid (fun w => refInt_any s1 4097 w (by omega) (by omega))
        rw [e4] at hc2
        generalize get s1 4097 = r2 at *
        obtain ⟨s2, ff⟩ := r2
        simp only at hle2 hgl2 hq
        go_wp2_with (first
          | ((with_reducible refine wpList_isStore 64 (.tmp 4) (.tmp 25) rfl ?_); refine wpList_store_blk rfl 64 (.tmp 4) (.tmp 25) rfl w.heap.size #[.string ⟨s1.1.toArray⟩, .int .i64 (s1.2 : Int)] rfl rfl 64 #[.string ⟨sl.toArray⟩, .int .i64 0] B3.out rdInfo rfl (by simp [Value.oneCell']) ?_; intro w3 nw3 kw3 zw3; have D := kw3; have T5a := D.blk T3.out (by omega); have d1 := T5a.cell 1; have f1 := T5a.frozen 1; have hzz := Kb.size (K3.out.trans D); have T5 := Lib.hid (T5a.set_ 1 (.int .i64 (mm : Int))); have B5 := Lib.hid (nw3.far (p := ⟨wr.heap.size, 1, none⟩) (by show w.heap.size ≠ wr.heap.size; omega) (.int .i64 (mm : Int))); have K5 := Lib.hid ((K3.out.trans D).far (n := wr.heap.size) (Nat.le_refl _) 1 (.int .i64 (mm : Int))); have y0 := B5.out.cell 0; have y1 := B5.out.cell 1; have t1 := T5.out.cell 1; clear T5a D nw3 kw3 zw3 B3 T3 K3))
        go_at_call 34
        refine (hc2.out _).mono ?_
        rintro e w4 ⟨rfl, g4⟩
        have B6 := Lib.hid ((blk_more B5.out g4).alloc (.cells #[.string ⟨s2.1.toArray⟩, .int .i64 (s2.2 : Int)] 64))
        have T6 := Lib.hid ((blk_more T5.out g4).alloc (.cells #[.string ⟨s2.1.toArray⟩, .int .i64 (s2.2 : Int)] 64))
        have K6 := Lib.hid ((K5.out.gr g4).alloc (.cells #[.string ⟨s2.1.toArray⟩, .int .i64 (s2.2 : Int)] 64))
        clear hc2 y0 y1 B5 T5 K5 g4
        obtain rfl : q = (s2, (⟨(ff : Int), (mm : Int), ([] : List UInt8)⟩ : Tok)) := hq
        try simp only [] at hst hls hbd hF
        by_cases he : s2.2 = 0
        · rw [if_neg (by omega)] at hF
          have hls := hls he
          obtain ⟨bf1, bf2, bm1, bm2, bd, _⟩ := hbd
          have hro := Lib.hid (fun w => refRight_any (⟨(ff : Int), (mm : Int), ([] : List UInt8)⟩ : Tok) w ⟨by simp only []; omega, by simp only []; omega, by simp only []; omega, by simp only []; omega, by simp only [] at bd ⊢; omega⟩)
          clear hst
          have he' := Lib.hid he
          clear he
          go_wp2_with (first
            | ((with_reducible refine wpList_isStore 64 (.tmp 4) (.tmp 36) rfl ?_); refine wpList_store_blk rfl 64 (.tmp 4) (.tmp 36) rfl w.heap.size #[.string ⟨s2.1.toArray⟩, .int .i64 (s2.2 : Int)] rfl rfl 64 #[.string ⟨s1.1.toArray⟩, .int .i64 (s1.2 : Int)] B6.out rdInfo rfl (by simp [Value.oneCell']) ?_; intro w5 nw5 kw5 zw5; have D := kw5; have T7a := D.blk T6.out (by omega); have d1 := T7a.cell 0; have f1 := T7a.frozen 0; have hzz := Kb.size (K6.out.trans D); have T7 := Lib.hid (T7a.set_ 0 (.int .i64 (ff : Int))); have B7 := Lib.hid (nw5.far (p := ⟨wr.heap.size, 0, none⟩) (by show w.heap.size ≠ wr.heap.size; omega) (.int .i64 (ff : Int))); have K7 := Lib.hid ((K6.out.trans D).far (n := wr.heap.size) (Nat.le_refl _) 0 (.int .i64 (ff : Int))); have y0 := B7.out.cell 0; have y1 := B7.out.cell 1; have t0 := T7.out.cell 0; have t1 := T7.out.cell 1; have t2 := T7.out.cell 2; have qe : (s2.2 : Int) = 0 := (by rw [he'.out]; rfl); clear T7a D nw5 kw5 zw5 B6 T6 K6))
          go_at_call 16
          refine (hro.out _).mono ?_
          rintro e w6 ⟨rfl, g6⟩
          have B8 := blk_more B7.out g6
          have T8 := blk_more T7.out g6
          have K8 := Lib.hid (K7.out.gr g6)
          have x0 := T8.cell 0
          have x1 := T8.cell 1
          have x2 := T8.cell 2
          replace B8 := Lib.hid B8
          clear T8 B7 T7 K7 y0 y1 t0 t1 t2 g6 hro
          cases hrt : right (⟨(ff : Int), (mm : Int), ([] : List UInt8)⟩ : Tok)
          · rw [hrt, if_neg (by simp)] at hF
            subst hF
            clear hrt B8
            go_wp2
            go_ret2
            exact ⟨none, 0, rfl, OT.nil_ _ _ _, (Below.trans hg'.out (Below.mono (Kb.below K8.out (by omega)) (Nat.le_refl _)))⟩
          · rw [hrt, if_pos rfl] at hF
            have hF' := Lib.hid hF
            clear hF hrt
            have hz6 := Kb.size K8.out
            have oL := Lib.hid (OT.alloc (OR.kb ho'.out K8.out (by omega)) (.cells #[.int .i64 (ff : Int), .int .i64 (mm : Int), .string ⟨([] : List UInt8).toArray⟩] 37))
            have nL := Lib.hid (TR.new1 w6 37 (⟨(ff : Int), (mm : Int), ([] : List UInt8)⟩ : Tok))
            have gL := Lib.hid (Below.alloc (Below.trans hg'.out (Below.mono (Kb.below K8.out (by omega)) (Nat.le_refl _))) (by omega) (.cells #[.int .i64 (ff : Int), .int .i64 (mm : Int), .string ⟨([] : List UInt8).toArray⟩] 37) : Below w.heap.size w (w6.alloc (.cells #[.int .i64 (ff : Int), .int .i64 (mm : Int), .string ⟨([] : List UInt8).toArray⟩] 37)))
            have rL := Lib.hid (B8.out.alloc (.cells #[.int .i64 (ff : Int), .int .i64 (mm : Int), .string ⟨([] : List UInt8).toArray⟩] 37))
            go_wp2_with (first
              | ((with_reducible refine wpList_isApp (.tmp 55) (.tmp 57) 22 rfl ?_); refine wpList_append_rowsN (v := .slice A0 out.length c0) rfl (.tmp 55) (.tmp 57) 22 rfl Try.underlying22 refRow rfl (by exact oL.out) (w6.heap.size + 1) _ 1 1 (tcs [(⟨(ff : Int), (mm : Int), ([] : List UInt8)⟩ : Tok)]) rfl (by exact nL.out) (tcs_one_cell _) (by unfold maxLen; omega) (by omega) (by rw [World.size_alloc]; omega) (tcs (out ++ [(⟨(ff : Int), (mm : Int), ([] : List UInt8)⟩ : Tok)])) (tcs_append _ _) (out ++ [(⟨(ff : Int), (mm : Int), ([] : List UInt8)⟩ : Tok)]).length (by simp) ?_; intro A9 c9 w9 o9 b9))
            have G9 := Lib.hid (Below.trans gL.out (Below.mono b9 (by omega)))
            have R9 := Blk.below rL.out b9 (by omega)
            have l9 := leftR_eq R9
            have e0 : (s2.2 : Int) = 0 := (by rw [he'.out]; rfl)
            rw [e0] at R9
            replace R9 := Lib.hid R9
            replace o9 := Lib.hid o9
            obtain ⟨sl2, er2⟩ := s2
            obtain rfl : er2 = 0 := he'.out
            clear oL nL gL rL b9
            go_wp2
            go_roundw
            case rel => exact ⟨m, sl2, out ++ [(⟨(ff : Int), (mm : Int), ([] : List UInt8)⟩ : Tok)], A9, c9, by simp, by simp only [] at hls; omega, hF'.out, by simp only [] at hls; simp; omega, by unfold OT; simpa using o9.out, R9.out, G9.out⟩
            case measure => rw [l9, hlo]; exact hls
        · have hF' := hF
          rw [if_pos he] at hF'
          subst hF'
          clear hF hst hls hbd
          go_wp2_with (first
            | ((with_reducible refine wpList_isStore 64 (.tmp 4) (.tmp 36) rfl ?_); refine wpList_store_blk rfl 64 (.tmp 4) (.tmp 36) rfl w.heap.size #[.string ⟨s2.1.toArray⟩, .int .i64 (s2.2 : Int)] rfl rfl 64 #[.string ⟨s1.1.toArray⟩, .int .i64 (s1.2 : Int)] B6.out rdInfo rfl (by simp [Value.oneCell']) ?_; intro w5 nw5 kw5 zw5; have D := kw5; have T7a := D.blk T6.out (by omega); have d1 := T7a.cell 0; have f1 := T7a.frozen 0; have hzz := Kb.size (K6.out.trans D); have T7 := Lib.hid (T7a.set_ 0 (.int .i64 (ff : Int))); have B7 := Lib.hid (nw5.far (p := ⟨wr.heap.size, 0, none⟩) (by show w.heap.size ≠ wr.heap.size; omega) (.int .i64 (ff : Int))); have K7 := Lib.hid ((K6.out.trans D).far (n := wr.heap.size) (Nat.le_refl _) 0 (.int .i64 (ff : Int))); have y0 := B7.out.cell 0; have y1 := B7.out.cell 1; have t0 := T7.out.cell 0; have t1 := T7.out.cell 1; have t2 := T7.out.cell 2; have qe : ((s2.2 : Int) == 0) = false := (by rw [beq_eq_false_iff_ne]; omega); clear T7a D nw5 kw5 zw5 B6 T6 K6))
          have GG := Lib.hid (Below.trans hg'.out (Below.mono (Kb.below K7.out (by omega)) (Nat.le_refl _)))
          clear B7 T7 K7
          go_quiet (fail)
          go_wp2
          go_ret2
          exact ⟨none, 0, rfl, OT.nil_ _ _ _, below_drewN GG.out _⟩
      · rw [if_neg hm] at hq
        obtain rfl : mm = 0 := by omega
        have hgl2 := getText_short s1 16384
        have hc2 := Lib.hid (fun w => refText2_any s1 16384 w (by omega) (by omega))
        rw [e5] at hc2
        generalize getText s1 16384 = r2 at *
        obtain ⟨s2, dd⟩ := r2
        simp only at hgl2 hq
        go_wp2_with (first
          | ((with_reducible refine wpList_isStore 64 (.tmp 4) (.tmp 25) rfl ?_); refine wpList_store_blk rfl 64 (.tmp 4) (.tmp 25) rfl w.heap.size #[.string ⟨s1.1.toArray⟩, .int .i64 (s1.2 : Int)] rfl rfl 64 #[.string ⟨sl.toArray⟩, .int .i64 0] B3.out rdInfo rfl (by simp [Value.oneCell']) ?_; intro w3 nw3 kw3 zw3; have D := kw3; have T5a := D.blk T3.out (by omega); have d1 := T5a.cell 1; have f1 := T5a.frozen 1; have hzz := Kb.size (K3.out.trans D); have T5 := Lib.hid (T5a.set_ 1 (.int .i64 0)); have B5 := Lib.hid (nw3.far (p := ⟨wr.heap.size, 1, none⟩) (by show w.heap.size ≠ wr.heap.size; omega) (.int .i64 0)); have K5 := Lib.hid ((K3.out.trans D).far (n := wr.heap.size) (Nat.le_refl _) 1 (.int .i64 0)); have y0 := B5.out.cell 0; have y1 := B5.out.cell 1; have t1 := T5.out.cell 1; clear T5a D nw3 kw3 zw3 B3 T3 K3))
        go_at_call 35
        refine (hc2.out _).mono ?_
        rintro e w4 ⟨rfl, g4⟩
        have B6 := Lib.hid ((blk_more B5.out g4).alloc (.cells #[.string ⟨s2.1.toArray⟩, .int .i64 (s2.2 : Int)] 64))
        have T6 := Lib.hid ((blk_more T5.out g4).alloc (.cells #[.string ⟨s2.1.toArray⟩, .int .i64 (s2.2 : Int)] 64))
        have K6 := Lib.hid ((K5.out.gr g4).alloc (.cells #[.string ⟨s2.1.toArray⟩, .int .i64 (s2.2 : Int)] 64))
        clear hc2 y0 y1 B5 T5 K5 g4
        obtain rfl : q = (s2, (⟨0, 0, dd⟩ : Tok)) := hq
        try simp only [] at hst hls hbd hF
        by_cases he : s2.2 = 0
        · rw [if_neg (by omega)] at hF
          have hls := hls he
          obtain ⟨bf1, bf2, bm1, bm2, bd, _⟩ := hbd
          have hro := Lib.hid (fun w => refRight_any (⟨0, 0, dd⟩ : Tok) w ⟨by simp only []; omega, by simp only []; omega, by simp only []; omega, by simp only []; omega, by simp only [] at bd ⊢; omega⟩)
          clear hst
          have he' := Lib.hid he
          clear he
          go_wp2_with (first
            | ((with_reducible refine wpList_isStore 64 (.tmp 4) (.tmp 44) rfl ?_); refine wpList_store_blk rfl 64 (.tmp 4) (.tmp 44) rfl w.heap.size #[.string ⟨s2.1.toArray⟩, .int .i64 (s2.2 : Int)] rfl rfl 64 #[.string ⟨s1.1.toArray⟩, .int .i64 (s1.2 : Int)] B6.out rdInfo rfl (by simp [Value.oneCell']) ?_; intro w5 nw5 kw5 zw5; have D := kw5; have T7a := D.blk T6.out (by omega); have d1 := T7a.cell 2; have f1 := T7a.frozen 2; have hzz := Kb.size (K6.out.trans D); have T7 := Lib.hid (T7a.set_ 2 (.string ⟨dd.toArray⟩)); have B7 := Lib.hid (nw5.far (p := ⟨wr.heap.size, 2, none⟩) (by show w.heap.size ≠ wr.heap.size; omega) (.string ⟨dd.toArray⟩)); have K7 := Lib.hid ((K6.out.trans D).far (n := wr.heap.size) (Nat.le_refl _) 2 (.string ⟨dd.toArray⟩)); have y0 := B7.out.cell 0; have y1 := B7.out.cell 1; have t0 := T7.out.cell 0; have t1 := T7.out.cell 1; have t2 := T7.out.cell 2; have qe : (s2.2 : Int) = 0 := (by rw [he'.out]; rfl); clear T7a D nw5 kw5 zw5 B6 T6 K6))
          go_at_call 16
          refine (hro.out _).mono ?_
          rintro e w6 ⟨rfl, g6⟩
          have B8 := blk_more B7.out g6
          have T8 := blk_more T7.out g6
          have K8 := Lib.hid (K7.out.gr g6)
          have x0 := T8.cell 0
          have x1 := T8.cell 1
          have x2 := T8.cell 2
          replace B8 := Lib.hid B8
          clear T8 B7 T7 K7 y0 y1 t0 t1 t2 g6 hro
          cases hrt : right (⟨0, 0, dd⟩ : Tok)
          · rw [hrt, if_neg (by simp)] at hF
            subst hF
            clear hrt B8
            go_wp2
            go_ret2
            exact ⟨none, 0, rfl, OT.nil_ _ _ _, (Below.trans hg'.out (Below.mono (Kb.below K8.out (by omega)) (Nat.le_refl _)))⟩
          · rw [hrt, if_pos rfl] at hF
            have hF' := Lib.hid hF
            clear hF hrt
            have hz6 := Kb.size K8.out
            have oL := Lib.hid (OT.alloc (OR.kb ho'.out K8.out (by omega)) (.cells #[.int .i64 0, .int .i64 0, .string ⟨dd.toArray⟩] 37))
            have nL := Lib.hid (TR.new1 w6 37 (⟨0, 0, dd⟩ : Tok))
            have gL := Lib.hid (Below.alloc (Below.trans hg'.out (Below.mono (Kb.below K8.out (by omega)) (Nat.le_refl _))) (by omega) (.cells #[.int .i64 0, .int .i64 0, .string ⟨dd.toArray⟩] 37) : Below w.heap.size w (w6.alloc (.cells #[.int .i64 0, .int .i64 0, .string ⟨dd.toArray⟩] 37)))
            have rL := Lib.hid (B8.out.alloc (.cells #[.int .i64 0, .int .i64 0, .string ⟨dd.toArray⟩] 37))
            go_wp2_with (first
              | ((with_reducible refine wpList_isApp (.tmp 55) (.tmp 57) 22 rfl ?_); refine wpList_append_rowsN (v := .slice A0 out.length c0) rfl (.tmp 55) (.tmp 57) 22 rfl Try.underlying22 refRow rfl (by exact oL.out) (w6.heap.size + 1) _ 1 1 (tcs [(⟨0, 0, dd⟩ : Tok)]) rfl (by exact nL.out) (tcs_one_cell _) (by unfold maxLen; omega) (by omega) (by rw [World.size_alloc]; omega) (tcs (out ++ [(⟨0, 0, dd⟩ : Tok)])) (tcs_append _ _) (out ++ [(⟨0, 0, dd⟩ : Tok)]).length (by simp) ?_; intro A9 c9 w9 o9 b9))
            have G9 := Lib.hid (Below.trans gL.out (Below.mono b9 (by omega)))
            have R9 := Blk.below rL.out b9 (by omega)
            have l9 := leftR_eq R9
            have e0 : (s2.2 : Int) = 0 := (by rw [he'.out]; rfl)
            rw [e0] at R9
            replace R9 := Lib.hid R9
            replace o9 := Lib.hid o9
            obtain ⟨sl2, er2⟩ := s2
            obtain rfl : er2 = 0 := he'.out
            clear oL nL gL rL b9
            go_wp2
            go_roundw
            case rel => exact ⟨m, sl2, out ++ [(⟨0, 0, dd⟩ : Tok)], A9, c9, by simp, by simp only [] at hls; omega, hF'.out, by simp only [] at hls; simp; omega, by unfold OT; simpa using o9.out, R9.out, G9.out⟩
            case measure => rw [l9, hlo]; exact hls
        · have hF' := hF
          rw [if_pos he] at hF'
          subst hF'
          clear hF hst hls hbd
          go_wp2_with (first
            | ((with_reducible refine wpList_isStore 64 (.tmp 4) (.tmp 44) rfl ?_); refine wpList_store_blk rfl 64 (.tmp 4) (.tmp 44) rfl w.heap.size #[.string ⟨s2.1.toArray⟩, .int .i64 (s2.2 : Int)] rfl rfl 64 #[.string ⟨s1.1.toArray⟩, .int .i64 (s1.2 : Int)] B6.out rdInfo rfl (by simp [Value.oneCell']) ?_; intro w5 nw5 kw5 zw5; have D := kw5; have T7a := D.blk T6.out (by omega); have d1 := T7a.cell 2; have f1 := T7a.frozen 2; have hzz := Kb.size (K6.out.trans D); have T7 := Lib.hid (T7a.set_ 2 (.string ⟨dd.toArray⟩)); have B7 := Lib.hid (nw5.far (p := ⟨wr.heap.size, 2, none⟩) (by show w.heap.size ≠ wr.heap.size; omega) (.string ⟨dd.toArray⟩)); have K7 := Lib.hid ((K6.out.trans D).far (n := wr.heap.size) (Nat.le_refl _) 2 (.string ⟨dd.toArray⟩)); have y0 := B7.out.cell 0; have y1 := B7.out.cell 1; have t0 := T7.out.cell 0; have t1 := T7.out.cell 1; have t2 := T7.out.cell 2; have qe : ((s2.2 : Int) == 0) = false := (by rw [beq_eq_false_iff_ne]; omega); clear T7a D nw5 kw5 zw5 B6 T6 K6))
          have GG := Lib.hid (Below.trans hg'.out (Below.mono (Kb.below K7.out (by omega)) (Nat.le_refl _)))
          clear B7 T7 K7
          go_quiet (fail)
          go_wp2
          go_ret2
          exact ⟨none, 0, rfl, OT.nil_ _ _ _, below_drewN GG.out _⟩
end Tk
end Go.Proofs.Ythacnfoeaefeiaa
