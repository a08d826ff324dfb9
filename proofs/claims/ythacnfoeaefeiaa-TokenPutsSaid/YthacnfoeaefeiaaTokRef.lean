/- The walks of the document's Bytes and Join. No condition but sizes. -/
import Derived.Test.YthacnfoeaefeiaaTokSame
set_option linter.unusedVariables false
set_option linter.unusedSimpArgs false
namespace Go.Proofs.Ythacnfoeaefeiaa
open Go Go.RowKit W
namespace Tk
set_option maxHeartbeats 2000000 in
theorem refBytes_any (A : Option Addr) (c : Nat) (l : List Tok) (w : World) (hl : TR w w.heap.size A l) (hf : Fits l) (hk40 : l.length ≤ 1000000) :
    Calls Try.prog 15 #[.slice A l.length c] w fun e w' => e = .returned (.int .i64 (bytes l : Int)) ∧ Gr w w' := by
  have hl' := Lib.hid hl
  have hf' := Lib.hid hf.2
  clear hl hf
  go_enter Try.func15, Try.ntmps15
  go_wp2
  go_loopw [3, 4] (fun n i wr => ∃ k : Nat, k ≤ l.length ∧ i = .int .i64 (k : Int) ∧ n = .int .i64 (bytes (l.take k) : Int) ∧ Gr w wr) (fun _ i _ => l.length - (intOf i).toNat)
  case atStart => exact ⟨0, by omega, rfl, rfl, Gr.refl w⟩
  case round =>
    obtain ⟨k, hk, rfl, rfl, hg⟩ := hrel
    by_cases h : k < l.length
    · obtain ⟨ad, hA, hlt, c0, c1, c2⟩ := (hl'.out.below hg).at_ h
      subst hA
      have hb := bytes_snoc l k h
      have hbl := bytes_le (l.take k) (fun t ht => hf'.out t (List.mem_of_mem_take ht))
      rw [List.length_take] at hbl
      have hbl2 : bytes (l.take k) ≤ 1000000 * 16384 := Nat.le_trans hbl (Nat.mul_le_mul_right _ (by omega))
      have hfk := hf'.out l[k] (List.getElem_mem h)
      clear hbl
      generalize l[k] = t at *
      obtain ⟨f, m, d⟩ := t
      have hro := Lib.hid (fun w => refRight_any ⟨f, m, d⟩ w hfk)
      have hd := hfk.2.2.2.2
      simp only at c0 c1 c2 hb hd
      have hlt2 : (ad.add (k * 3)).block < wr.heap.size := by rw [block_of_add]; exact Nat.lt_of_lt_of_le hlt (Below.size hg)
      have i1 : (0 : Int) ≤ (k : Int) := by omega
      have i2 : (k : Int) < (l.length : Int) := by omega
      replace hg := Lib.hid hg
      clear hfk
      cases hr : right ⟨f, m, d⟩
      · rw [hr] at hro hb
        replace hb := Lib.hid hb
        replace hr := Lib.hid hr
        go_wp2_with fail
        go_at_call 16
        refine (hro.out _).mono ?_
        rintro e w1 ⟨rfl, hg1⟩
        have g1 := Lib.hid (Gr.trans hg.out hg1)
        clear hro hg1 hg
        go_wp2
        go_roundw
        case rel => exact ⟨k + 1, by omega, by go_num, by rw [hb.out]; simp, g1.out⟩
        case measure => simp [intOf]; omega
      · rw [hr] at hro hb
        replace hb := Lib.hid hb
        replace hr := Lib.hid hr
        go_wp2_with fail
        go_at_call 16
        refine (hro.out _).mono ?_
        rintro e w1 ⟨rfl, hg1⟩
        have g1 := Lib.hid (Gr.trans hg.out hg1)
        have e2 := (hg1.cell (p := ⟨(ad.add (k * 3)).block, (ad.add (k * 3)).off + 2, none⟩) hlt2).trans c2
        clear hro hg1 hg c0 c1 c2
        go_wp2
        go_roundw
        case rel => exact ⟨k + 1, by omega, by go_num, by rw [hb.out]; simp, g1.out⟩
        case measure => simp [intOf]; omega
    · obtain rfl : k = l.length := by omega
      go_wp2
      go_ret
      exact ⟨by rw [List.take_length]; rfl, hg⟩
theorem two_lit {a t : Tok} (h1 : a.m = 0) (h2 : t.m = 0) (h3 : a.d.length + t.d.length ≤ 16384) : two a t = some ⟨0, 0, a.d ++ t.d⟩ := by unfold two; rw [if_pos ⟨h1, h2, h3⟩]
theorem two_cpy {a t : Tok} (h1 : 0 < a.m) (h2 : 0 < t.m) (h3 : a.f + a.m = t.f) : two a t = some ⟨a.f, a.m + t.m, []⟩ := by unfold two; rw [if_neg (by omega), if_pos ⟨h1, h2, h3⟩]
theorem two_off {a t : Tok} (h1 : ¬ (a.m = 0 ∧ t.m = 0 ∧ a.d.length + t.d.length ≤ 16384)) (h2 : ¬ (0 < a.m ∧ 0 < t.m ∧ a.f + a.m = t.f)) : two a t = none := by unfold two; rw [if_neg h1, if_neg h2]
def JR' (w wr : World) (J : List Tok) (v : Value) : Prop := ∃ A c, v = .slice A J.length c ∧ OT 37 wr w.heap.size (.slice A J.length c) J
set_option maxRecDepth 100000 in
set_option maxHeartbeats 8000000 in
theorem refJoin_any (A : Option Addr) (c : Nat) (l : List Tok) (w : World) (hl : TR w w.heap.size A l) (hf : Fits l) (hk40 : l.length ≤ 1000000) :
    Calls Try.prog 12 #[.slice A l.length c] w fun e w' => JR' w w' (join l) (match e with | .returned v => v | _ => .bool false) ∧ (∃ v, e = .returned v) ∧ Gr w w' := by
  have hl' := Lib.hid hl
  have hf' := Lib.hid hf.2
  clear hl hf
  go_enter Try.func12, Try.ntmps12
  go_wp2
  go_loopw [3, 4, 5, 6] (fun out i _ _ wr => ∃ k : Nat, k ≤ l.length ∧ i = .int .i64 (k : Int) ∧ JR' w wr ((l.take k).foldl step []) out ∧ Gr w wr) (fun _ i _ _ _ => l.length - (intOf i).toNat)
  case atStart => exact ⟨0, by omega, rfl, ⟨none, 0, rfl, OT.nil_ _ _ _⟩, Gr.refl w⟩
  case round =>
    obtain ⟨k, hk, rfl, ⟨A0, c0, rfl, ho⟩, hg⟩ := hrel
    by_cases h : k < l.length
    · obtain ⟨ad, hA, hlt, e0, e1, e2⟩ := (hl'.out.below hg).at_ h
      subst hA
      have hs := Lib.hid (fold_snoc l k h)
      have hfl := fold_len (l.take k) []
      rw [List.length_take, List.length_nil] at hfl
      have hfk := hf'.out l[k] (List.getElem_mem h)
      have hall := fold_all (l.take k) [] (by simp)
      generalize (l.take k).foldl step [] = J at *
      generalize l[k] = t at *
      have hJ : J.length ≤ 1000000 := by omega
      clear hfl
      have hro := Lib.hid (fun w => refRight_any t w hfk)
      have hd := hfk.2.2.2.2
      have ga := Lib.hid (Gr.alloc hg (.cells #[.int .i64 t.f, .int .i64 t.m, .string ⟨t.d.toArray⟩] 37))
      have oa := Lib.hid (ho.alloc (.cells #[.int .i64 t.f, .int .i64 t.m, .string ⟨t.d.toArray⟩] 37))
      have bx := Lib.hid (Blk.new wr 37 #[.int .i64 t.f, .int .i64 t.m, .string ⟨t.d.toArray⟩])
      have hwr := hg.size
      have i1 : (0 : Int) ≤ (k : Int) := by omega
      have i2 : (k : Int) < (l.length : Int) := by omega
      clear hg hfk ho
      cases hr : right t
      · rw [hr] at hro
        replace hr := Lib.hid hr
        clear hall bx
        go_wp2_with fail
        go_at_call 16
        refine (hro.out _).mono ?_
        rintro e w1 ⟨rfl, hg1⟩
        have g1 := Lib.hid (Gr.trans ga.out hg1)
        have o1 := Lib.hid (oa.out.below hg1)
        clear hro hg1 ga oa
        go_wp2
        go_roundw
        case rel => exact ⟨k + 1, by omega, by go_num, by rw [hs.out, step_bad hr.out]; exact ⟨_, _, rfl, o1.out⟩, g1.out⟩
        case measure => simp [intOf]; omega
      · rw [hr] at hro
        rw [step_good hr] at hs
        have hrt := Lib.hid hr
        clear hr
        go_wp2_with fail
        go_at_call 16
        refine (hro.out _).mono ?_
        rintro e w1 ⟨rfl, hg1⟩
        have g1 := Lib.hid (Gr.trans ga.out hg1)
        have o1 := Lib.hid (oa.out.below hg1)
        have b1 := Lib.hid (blk_more bx.out hg1)
        clear hro hg1 ga oa bx
        rcases snoc_or J with rfl | ⟨o, a, rfl⟩
        · have x := b1.out
          have x0 := x.cell 0
          have x1 := x.cell 1
          have x2 := x.cell 2
          clear x b1
          have oL := Lib.hid (o1.out.alloc (.cells #[.int .i64 t.f, .int .i64 t.m, .string ⟨t.d.toArray⟩] 37))
          have nL := Lib.hid (TR.new1 w1 37 t)
          have gL := Lib.hid (Gr.alloc g1.out (.cells #[.int .i64 t.f, .int .i64 t.m, .string ⟨t.d.toArray⟩] 37))
          have hWw := Below.size g1.out
          go_wp2_with (first
            | ((with_reducible refine wpList_isApp (.tmp 23) (.tmp 25) 22 rfl ?_); refine wpList_append_rowsN (v := .slice A0 0 c0) rfl (.tmp 23) (.tmp 25) 22 rfl Try.underlying22 refRow rfl (by exact oL.out) (w1.heap.size + 1) _ 1 1 (tcs [t]) rfl (by exact nL.out) (tcs_one_cell _) (by unfold maxLen; simp <;> omega) (by simp <;> omega) (by simp <;> omega) (tcs ([] ++ [t])) (tcs_append _ _) ([] ++ [t]).length (by simp) ?_; intro A9 c9 w9 o9 b9))
          have g9 : Gr w w9 := Below.trans gL.out b9
          clear oL nL gL b9
          go_wp2
          go_roundw
          case rel => exact ⟨k + 1, by omega, by go_num, by rw [hs.out]; exact ⟨A9, c9, by first | rfl | simp, by first | exact o9 | (unfold OT; simpa using o9)⟩, g9⟩
          case measure => simp [intOf]; omega
        · have hgf : ∃ g, A0 = some ⟨g, 0, none⟩ := by
            rcases (show OR _ _ _ _ _ _ _ from o1.out).2 with ⟨hv, hn⟩ | ⟨g, cap, cur, hv, _⟩
            · simp at hn
            · injection hv with h1
              exact ⟨g, h1⟩
          obtain ⟨g, rfl⟩ := hgf
          have hol : (o ++ [a]).length = o.length + 1 := by simp
          have haR : right a = true := hall a (by simp)
          have o1' : OT 37 w1 w.heap.size (.slice (some ⟨g, 0, none⟩) (o.length + 1) c0) (o ++ [a]) := hol ▸ o1.out
          obtain ⟨⟨y0, y1, y2⟩, hgb, hgl, hgf⟩ := ot_last o1'
          have hpu := push_last o a t
          have hra := right_spec haR
          have hrb := right_spec hrt.out
          have hda := (right_fit haR).2
          have hdb := (right_fit hrt.out).2
          obtain ⟨p1, p2, p3, p4, _⟩ := hra
          obtain ⟨q1, q2, q3, q4, _⟩ := hrb
          have hO : o.length < 1000000 := by rw [hol] at hJ; omega
          clear o1 hall haR hrt hol hJ
          by_cases hc1 : a.m = 0 ∧ t.m = 0 ∧ a.d.length + t.d.length ≤ 16384
          · rw [two_lit hc1.1 hc1.2.1 hc1.2.2] at hpu
            replace hpu := Lib.hid hpu
            obtain ⟨k1, k2, k3⟩ := hc1
            have k1' : (a.m == 0) = true := by simp [k1]
            have k2' : (t.m == 0) = true := by simp [k2]
            have k3' : (a.d.length : Int) + (t.d.length : Int) ≤ 16384 := by omega
            clear k1 k2
            have x := b1.out
            have x0 := x.cell 0
            have x1 := x.cell 1
            have x2 := x.cell 2
            have f0 := hgf (o.length * 3)
            have f1 := hgf (o.length * 3 + 1)
            have f2 := hgf (o.length * 3 + 2)
            have oS := Lib.hid ((OT.set3 (b := ⟨0, 0, a.d ++ t.d⟩) o1').alloc (.cells #[.int .i64 a.f, .int .i64 a.m, .string ⟨a.d.toArray⟩] 37))
            have gS := Lib.hid (Gr.alloc ((((g1.out.setCell (p := ⟨g, o.length * 3, none⟩) hgb (.int .i64 (0))).setCell (p := ⟨g, o.length * 3 + 1, none⟩) hgb (.int .i64 (0))).setCell (p := ⟨g, o.length * 3 + 2, none⟩) hgb (.string ⟨(a.d ++ t.d).toArray⟩)) : Gr w (((w1.setCell ⟨g, o.length * 3, none⟩ (.int .i64 (0))).setCell ⟨g, o.length * 3 + 1, none⟩ (.int .i64 (0))).setCell ⟨g, o.length * 3 + 2, none⟩ (.string ⟨(a.d ++ t.d).toArray⟩))) (.cells #[.int .i64 a.f, .int .i64 a.m, .string ⟨a.d.toArray⟩] 37))
            have hbl := x.lt
            clear x hgf o1'
            go_wp2
            go_roundw
            case rel => exact ⟨k + 1, by omega, by go_num, by rw [hs.out, hpu.out]; exact ⟨some ⟨g, 0, none⟩, c0, by simp, by simpa using oS.out⟩, gS.out⟩
            case measure => simp [intOf]; omega
          by_cases hc2 : 0 < a.m ∧ 0 < t.m ∧ a.f + a.m = t.f
          · rw [two_cpy hc2.1 hc2.2.1 hc2.2.2] at hpu
            replace hpu := Lib.hid hpu
            obtain ⟨k1, k2, k3⟩ := hc2
            have k1' : (a.m == 0) = false := by simp; omega
            have k3' : (a.f + a.m == t.f) = true := by simpa using k3
            have k4 : a.f + a.m ≤ 4097 := by omega
            clear k3
            have x := b1.out
            have x0 := x.cell 0
            have x1 := x.cell 1
            have x2 := x.cell 2
            have f0 := hgf (o.length * 3)
            have f1 := hgf (o.length * 3 + 1)
            have f2 := hgf (o.length * 3 + 2)
            have oS := Lib.hid ((OT.set3 (b := ⟨a.f, a.m + t.m, []⟩) o1').alloc (.cells #[.int .i64 a.f, .int .i64 a.m, .string ⟨a.d.toArray⟩] 37))
            have gS := Lib.hid (Gr.alloc ((((g1.out.setCell (p := ⟨g, o.length * 3, none⟩) hgb (.int .i64 (a.f))).setCell (p := ⟨g, o.length * 3 + 1, none⟩) hgb (.int .i64 (a.m + t.m))).setCell (p := ⟨g, o.length * 3 + 2, none⟩) hgb (.string ⟨([]).toArray⟩)) : Gr w (((w1.setCell ⟨g, o.length * 3, none⟩ (.int .i64 (a.f))).setCell ⟨g, o.length * 3 + 1, none⟩ (.int .i64 (a.m + t.m))).setCell ⟨g, o.length * 3 + 2, none⟩ (.string ⟨([]).toArray⟩))) (.cells #[.int .i64 a.f, .int .i64 a.m, .string ⟨a.d.toArray⟩] 37))
            have hbl := x.lt
            clear x hgf o1'
            go_wp2
            go_roundw
            case rel => exact ⟨k + 1, by omega, by go_num, by rw [hs.out, hpu.out]; exact ⟨some ⟨g, 0, none⟩, c0, by simp, by simpa using oS.out⟩, gS.out⟩
            case measure => simp [intOf]; omega
          · rw [two_off hc1 hc2] at hpu
            replace hpu := Lib.hid hpu
            have hh : (a.m = 0 ∧ t.m = 0 ∧ ¬ (a.d.length : Int) + (t.d.length : Int) ≤ 16384) ∨ (a.m = 0 ∧ ¬ t.m = 0) ∨ (0 < a.m ∧ t.m = 0) ∨ (0 < a.m ∧ 0 < t.m ∧ ¬ a.f + a.m = t.f) := by omega
            clear hc1 hc2
            have hh' : ((a.m == 0) = true ∧ (t.m == 0) = true ∧ ¬ (a.d.length : Int) + (t.d.length : Int) ≤ 16384 ∧ ¬ 0 < a.m) ∨ ((a.m == 0) = true ∧ (t.m == 0) = false ∧ ¬ 0 < a.m) ∨ ((a.m == 0) = false ∧ 0 < a.m ∧ ¬ 0 < t.m) ∨ ((a.m == 0) = false ∧ 0 < a.m ∧ 0 < t.m ∧ (a.f + a.m == t.f) = false) := by
              simp only [beq_iff_eq, beq_eq_false_iff_ne, ne_eq]
              omega
            clear hh
            rcases hh' with ⟨k1', k2', k3', k4'⟩ | ⟨k1', k2', k4'⟩ | ⟨k1', k2', k3'⟩ | ⟨k1', k2', k3', k4'⟩
            all_goals
              have hgl2 := hgl
              obtain ⟨wa, hwa⟩ : ∃ wa, wa = w1.alloc (.cells #[.int .i64 a.f, .int .i64 a.m, .string ⟨a.d.toArray⟩] 37) := ⟨_, rfl⟩
              have oa2 : OT 37 wa w.heap.size (.slice (some ⟨g, 0, none⟩) (o.length + 1) c0) (o ++ [a]) := by rw [hwa]; exact o1'.alloc _
              have bt2 : Blk wa wr.heap.size 37 #[.int .i64 t.f, .int .i64 t.m, .string ⟨t.d.toArray⟩] := by rw [hwa]; exact b1.out.alloc _
              have ba2 : Blk wa w1.heap.size 37 #[.int .i64 a.f, .int .i64 a.m, .string ⟨a.d.toArray⟩] := by rw [hwa]; exact Blk.new w1 37 #[.int .i64 a.f, .int .i64 a.m, .string ⟨a.d.toArray⟩]
              have ga2 : Gr w wa := by rw [hwa]; exact g1.out.alloc _
              clear o1' b1
              have x0 := bt2.cell 0
              have x1 := bt2.cell 1
              have x2 := bt2.cell 2
              have z0 := ba2.cell 0
              have z1 := ba2.cell 1
              have z2 := ba2.cell 2
              obtain ⟨⟨d0, d1, d2⟩, hgb, hgl, hz4⟩ := ot_last oa2
              have hWw := Below.size ga2
              rw [hwa] at x0 x1 x2 z0 z1 z2 d0 d1 d2 hz4
              have oL := Lib.hid (oa2.alloc (.cells #[.int .i64 t.f, .int .i64 t.m, .string ⟨t.d.toArray⟩] 37))
              have nL := Lib.hid (TR.new1 wa 37 t)
              have gL := Lib.hid (Gr.alloc ga2 (.cells #[.int .i64 t.f, .int .i64 t.m, .string ⟨t.d.toArray⟩] 37))
              clear oa2 bt2 ba2 ga2 hz4 hgf d1 d2
              subst hwa
              replace nL := nL.out
              rw [World.size_alloc] at nL hWw
              replace nL := Lib.hid nL
              rw [hpu.out] at hs
              go_wp2_with (first
                | ((with_reducible refine wpList_isApp (.tmp 93) (.tmp 95) 22 rfl ?_); refine wpList_append_rowsN (v := .slice (some ⟨g, 0, none⟩) (o.length + 1) c0) rfl (.tmp 93) (.tmp 95) 22 rfl Try.underlying22 refRow rfl (by exact oL.out) (w1.heap.size + 1 + 1) _ 1 1 (tcs [t]) rfl (by exact nL.out) (tcs_one_cell _) (by unfold maxLen; simp <;> omega) (by simp <;> omega) (by simp <;> omega) (tcs ((o ++ [a]) ++ [t])) (tcs_append _ _) ((o ++ [a]) ++ [t]).length (by simp) ?_; intro A9 c9 w9 o9 b9))
              have g9 : Gr w w9 := Below.trans gL.out b9
              clear oL nL gL b9
              go_wp2
              go_roundw
              case rel => exact ⟨k + 1, by omega, by go_num, by rw [hs.out]; exact ⟨A9, c9, by first | rfl | simp, by first | exact o9 | (unfold OT; simpa using o9)⟩, g9⟩
              case measure => simp [intOf]; omega
    · obtain rfl : k = l.length := by omega
      rw [List.take_length] at ho
      replace ho := Lib.hid ho
      rw [List.take_length]
      go_wp2
      go_ret
      exact ⟨⟨_, _, rfl, ho.out⟩, ⟨_, rfl⟩, hg⟩
end Tk
end Go.Proofs.Ythacnfoeaefeiaa
