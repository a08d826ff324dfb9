/- Texts that the law rests on, merged. No condition. -/
import Derived.Test.YteadcblmomngpaaIM1
import Derived.Test.YteadcblmomngpaaIM2
import Derived.Test.YteadcblmomngpaaIM3
import Derived.Test.YteadcblmomngpaaIM4
set_option linter.unusedVariables false
set_option linter.unusedSimpArgs false
namespace Go.Proofs.Yteadcblmomngpaa
open Go Go.RowKit Go.Shelf W Pth
namespace Tr
/-- The first k have another mode. -/
def turnK (v : Int) (m : List Nd) (k : Nat) : List Nd := (m.take k).map (turnM v) ++ m.drop k
theorem turnK_len (v : Int) (m : List Nd) (k : Nat) : (turnK v m k).length = m.length := by
  unfold turnK
  rw [List.length_append, List.length_map, List.length_take, List.length_drop]
  omega
theorem turnK_zero (v : Int) (m : List Nd) : turnK v m 0 = m := by simp [turnK]
theorem turnK_all (v : Int) (m : List Nd) : turnK v m m.length = m.map (turnM v) := by simp [turnK]
theorem turnK_at (v : Int) (m : List Nd) {k : Nat} (hk : k < m.length) : (turnK v m k)[k]'(by rw [turnK_len]; exact hk) = m[k] := by
  unfold turnK
  rw [List.getElem_append_right (by rw [List.length_map, List.length_take]; omega)]
  simp only [List.length_map, List.length_take, List.getElem_drop]
  congr 1
  omega
theorem turnK_succ (v : Int) (m : List Nd) {k : Nat} (hk : k < m.length) : turnK v m (k + 1) = (turnK v m k).set k (turnM v m[k]) := by
  unfold turnK
  rw [List.set_append_right _ _ (by rw [List.length_map, List.length_take]; omega), List.length_map, List.length_take, Nat.min_eq_left (by omega), Nat.sub_self, List.take_succ_eq_append_getElem hk, List.map_append, List.drop_eq_getElem_cons hk, List.append_assoc]
  rfl
theorem ncs_set (l : List Nd) {k : Nat} (hk : k < l.length) (v : Int) : (ncs l).set (k * 5 + 2) (.int .i64 v) = ncs (l.set k ⟨(l[k]).p, (l[k]).kind, v, (l[k]).time, (l[k]).data⟩) := by
  have e : l = l.take k ++ l[k] :: l.drop (k + 1) := by rw [← List.drop_eq_getElem_cons hk, List.take_append_drop]
  have h1 : (ncs (l.take k)).length = k * 5 := by rw [ncs_len, List.length_take]; omega
  have e1 : ncs l = ncs (l.take k) ++ (nc l[k] ++ ncs (l.drop (k + 1))) := by
    conv => lhs; rw [e]
    rw [ncs_append]
    rfl
  have e2 : l.set k ⟨(l[k]).p, (l[k]).kind, v, (l[k]).time, (l[k]).data⟩ = l.take k ++ (⟨(l[k]).p, (l[k]).kind, v, (l[k]).time, (l[k]).data⟩ :: l.drop (k + 1)) := by
    rw [List.set_eq_take_append_cons_drop, if_pos hk]
  rw [e2, ncs_append, e1, List.set_append_right _ _ (by omega), h1, Nat.add_sub_cancel_left]
  rfl
theorem set_same {l : List Nd} {k : Nat} (hk : k < l.length) : l.set k l[k] = l := List.set_getElem_self hk
set_option maxRecDepth 100000 in
set_option maxHeartbeats 8000000 in
theorem moves_walk (A : Option Addr) (c : Nat) (l : List Nd) (frm to : List UInt8) (meta_ : Int) (w : World) (hr : NR w w.heap.size A l) :
    Calls Try.prog 4 #[.slice A l.length c, .agg #[str frm, str to], .int .i64 meta_] w (Ret (eqv (.bool true)) w) := by
  have haw := Lib.hid (fun w => awake_any w)
  have b0 := Blk.new w 23 #[str frm, str to]
  have g0 := (Gr.refl w).alloc (.cells #[str frm, str to] 23)
  have hr0 := hr.on g0
  have hsm := Lib.hid (small_any A c l _ hr0)
  have d0 := b0.cell 0
  have d1 := b0.cell 1
  replace b0 := Lib.hid b0
  replace g0 := Lib.hid g0
  go_enter Try.func4, Try.ntmps4
  by_cases hsp : smallP l = true
  · rw [hsp] at hsm
    by_cases hsl : 200 < frm.length
    · have i1 : (200 : Int) < (frm.length : Int) := by omega
      clear hsp hr hr0
      go_wp2_with fail
      go_at_call 6
      refine hsm.out.mono ?_
      rintro e w1 ⟨rfl, rfl⟩
      clear hsm
      go_wp2_with fail
      go_at_call 7
      refine (haw.out _).mono ?_
      rintro e w2 ⟨rfl, g2⟩
      have G2 := Lib.hid (Gr.trans g0.out g2)
      clear haw g2 g0 b0
      go_wp2
      go_ret
      exact ⟨_, rfl, rfl, G2.out⟩
    · have i1 : ¬ (200 : Int) < (frm.length : Int) := by omega
      by_cases hst : 200 < to.length
      · have i2 : (200 : Int) < (to.length : Int) := by omega
        clear hsp hr hr0
        go_wp2_with fail
        go_at_call 6
        refine hsm.out.mono ?_
        rintro e w1 ⟨rfl, rfl⟩
        clear hsm
        go_wp2_with fail
        go_at_call 7
        refine (haw.out _).mono ?_
        rintro e w2 ⟨rfl, g2⟩
        have G2 := Lib.hid (Gr.trans g0.out g2)
        clear haw g2 g0 b0
        go_wp2
        go_ret
        exact ⟨_, rfl, rfl, G2.out⟩
      · have i2 : ¬ (200 : Int) < (to.length : Int) := by omega
        have hf := small_fit hsp
        have hl24 := (small_iff.1 hsp).1
        have hto := Lib.hid (refOf_any A c l _ hr0 hf)
        have hfT : Fit (of l) := hf.of_mem (fun x hx => sorted_mem _ x (taken_mem _ x hx)) (Nat.le_trans (taken_len _) (sorted_len _))
        have huT := of_uniq l
        have htT := of_tree l
        have hT24 : (of l).length ≤ 24 := Nat.le_trans (Nat.le_trans (taken_len _) (sorted_len _)) hl24
        clear hsp hr hr0 hl24
        go_wp2_with fail
        go_at_call 6
        refine hsm.out.mono ?_
        rintro e w1 ⟨rfl, rfl⟩
        clear hsm
        go_wp2_with fail
        go_at_call 8
        refine hto.out.mono ?_
        rintro e w1 ⟨AT, cT, rfl, oT, g1⟩
        have nT := Lib.hid (ON.nr oT)
        have GG := Lib.hid (Gr.trans g0.out g1)
        have hw1s : w.heap.size < w1.heap.size := by have := g1.size; rw [World.size_alloc] at this; omega
        have b1 := blk_more b0.out g1
        have d0 := b1.cell 0
        have d1 := b1.cell 1
        replace b1 := Lib.hid b1
        clear hto oT g1 b0 g0
        generalize of l = T at *
        have hmv := Lib.hid (fun w h => refMove_any AT cT T frm to hfT w h (by omega) (by omega))
        have hp1 := Lib.hid (fun w h => print_any AT cT T hfT huT frm w h)
        obtain ⟨M, Z, hMZ⟩ : ∃ M Z, moveP T frm to = (M, Z) := ⟨_, _, rfl⟩
        rw [hMZ] at hmv
        go_wp2_with fail
        go_at_call 14
        refine (hmv.out _ nT.out).mono ?_
        rintro e w2 ⟨AM, cM, rfl, oM, g1⟩
        have nB := Lib.hid (NR.below nT.out g1)
        have wz : w.heap.size ≤ w1.heap.size := GG.out.size
        clear nT
        have hsz12 := Lib.hid g1.size
        have oM := Lib.hid (show ON w2 w1.heap.size (.slice AM M.length cM) M from oM)
        have GG := Lib.hid (Gr.trans GG.out g1)
        have b2 := blk_more b1.out g1
        have d0 := b2.cell 0
        have d1 := b2.cell 1
        replace b2 := Lib.hid b2
        clear g1 b1 hmv
        by_cases hz : Z = 0
        · have zb : (Z != 0) = false := by rw [hz]; rfl
          rw [hz] at hMZ
          have hML := (move_ok htT hMZ).2.2.2.2.2.2.2.2.1
          have hlk := fun v => moves_like htT hMZ v
          have hMr := (move_ok htT hMZ).2.2.2.2.2.2.1
          have hMd := (move_ok htT hMZ).2.2.2.2.2.2.2.2.2
          have hfM : ∀ v, Fit (M.map (turnM v)) := fun v => ⟨by rw [List.length_map]; omega, fun x hx => by
            obtain ⟨y, hy, rfl⟩ := List.mem_map.1 hx
            rw [(turnM_p v y).1, (turnM_p v y).2.2]
            have h1 := right_len (hMr y hy).2
            obtain ⟨n, hn, e⟩ := hMd y hy
            rw [e]
            exact ⟨by omega, (hfT.2 n hn).2⟩⟩
          have hM48 : M.length ≤ 48 := by omega
          replace hlk := Lib.hid hlk
          replace hfM := Lib.hid hfM
          clear hz hMZ hMr hMd htT hML
          obtain ⟨V, hV⟩ : ∃ V, bits BinOp.and IntKind.i64 meta_ 4095 = V := ⟨_, rfl⟩
          have oM0 : Hid (OR 34 5 w2 w1.heap.size (.slice AM M.length cM) M.length (ncs (turnK V M 0))) := Lib.hid (by rw [turnK_zero]; exact oM.out)
          clear oM
          go_wp2
          go_loopw [10] (fun v10 wr => ∃ k : Nat, k ≤ M.length ∧ v10 = .int .i64 (k : Int) ∧ Hid (OR 34 5 wr w1.heap.size (.slice AM M.length cM) M.length (ncs (turnK V M k)) ∧ NR wr w1.heap.size AT T ∧ Blk wr w.heap.size 23 #[str frm, str to] ∧ Gr w wr) ∧ Hid (w1.heap.size ≤ wr.heap.size))
            (fun v10 _ => M.length - (intOf v10).toNat)
          case atStart => exact ⟨0, by omega, rfl, Lib.hid ⟨oM0.out, nB.out, b2.out, GG.out⟩, hsz12⟩
          case round =>
            clear oM0 nB b2 GG d0 d1
            obtain ⟨k, hk, rfl, hst, hszw⟩ := hrel
            obtain ⟨oM, nB, b2, GG⟩ := hst.out
            clear hst
            by_cases hkl : k < M.length
            · have ij : (k : Int) < (M.length : Int) := by omega
              have i0 : (0 : Int) ≤ (k : Int) := by omega
              have kw : IntKind.i64.wrap ((k : Int) + 1) = (k : Int) + 1 := IntWalk.i64_in _ (by omega)
              have hkt : k < (turnK V M k).length := by rw [turnK_len]; exact hkl
              obtain ⟨gM, rfl⟩ : ∃ gM, AM = some ⟨gM, 0, none⟩ := by
                rcases oM.2 with ⟨hv, _⟩ | ⟨x, cap, cur, hv, _⟩
                · injection hv with h1 h2 _; omega
                · injection hv with h1 _ _; exact ⟨x, h1⟩
              have hgM := (World.ownsRow.lt oM gM rfl).1
              have hat := turnK_at V M hkl
              have hc := World.ownsRow.cells oM (g := gM) rfl
              have e1 : wr.cell? ⟨gM, k * 5 + 1, none⟩ = some (.int .i64 (M[k]).kind) := by
                have := hc (k * 5 + 1) (.int .i64 (M[k]).kind) (by have h1 := flat_at nc 5 nc_len (turnK V M k) k 1 hkt (by omega); show (ncs (turnK V M k))[k * 5 + 1]? = _; unfold ncs; rw [h1, hat]; rfl)
                rwa [own_add] at this
              have e2 : wr.cell? ⟨gM, k * 5 + 2, none⟩ = some (.int .i64 (M[k]).mode) := by
                have := hc (k * 5 + 2) (.int .i64 (M[k]).mode) (by have h1 := flat_at nc 5 nc_len (turnK V M k) k 2 hkt (by omega); show (ncs (turnK V M k))[k * 5 + 2]? = _; unfold ncs; rw [h1, hat]; rfl)
                rwa [own_add] at this
              have ff : wr.frozen? ⟨gM, k * 5 + 2, none⟩ = false := World.ownsRow.frozenAt oM _
              have hsu := turnK_succ V M hkl
              by_cases hk3 : (M[k]).kind = 3
              · have hkb : ((M[k]).kind != 3) = false := by rw [hk3]; rfl
                have hsame : turnK V M (k + 1) = turnK V M k := by
                  rw [hsu, show turnM V M[k] = M[k] from if_neg (fun h => h hk3), ← hat]
                  exact set_same hkt
                have st := Lib.hid (show _ ∧ _ ∧ _ ∧ _ from ⟨oM, nB, b2, GG⟩)
                rw [← hsame] at st
                obtain ⟨kd, hkd⟩ : ∃ kd, (M[k]).kind = kd := ⟨_, rfl⟩
                rw [hkd] at e1 hkb
                clear oM nB b2 GG hc hat hsu hsame hk3 hkd e2 ff
                go_wp2
                exact ⟨⟨k + 1, by omega, by go_num, st, hszw⟩, by simp [intOf]; omega⟩
              · have hkb : ((M[k]).kind != 3) = true := by simpa using hk3
                have hset : (ncs (turnK V M k)).set (k * 5 + 2) (.int .i64 V) = ncs (turnK V M (k + 1)) := by
                  rw [ncs_set _ hkt, hsu]
                  simp only [hat]
                  rw [show turnM V M[k] = ⟨(M[k]).p, (M[k]).kind, V, (M[k]).time, (M[k]).data⟩ from if_pos hk3]
                have o2 := (World.ownsRow.stored oM (k * 5 + 2) (.int .i64 V)).1
                rw [hset] at o2
                have n2 := Reads.setCell nB (p := ⟨gM, k * 5 + 2, none⟩) hgM (.int .i64 V)
                have bb := b2.far (p := ⟨gM, k * 5 + 2, none⟩) (by show w.heap.size ≠ gM; omega) (.int .i64 V)
                have g2 := Below.setCell GG (p := ⟨gM, k * 5 + 2, none⟩) (by show w.heap.size ≤ gM; omega) (.int .i64 V)
                have st := Lib.hid (show _ ∧ _ ∧ _ ∧ _ from ⟨o2, n2, bb, g2⟩)
                obtain ⟨kd, hkd⟩ : ∃ kd, (M[k]).kind = kd := ⟨_, rfl⟩
                obtain ⟨md, hmd⟩ : ∃ md, (M[k]).mode = md := ⟨_, rfl⟩
                rw [hkd] at e1 hkb
                rw [hmd] at e2
                have hVh := Lib.hid hV
                clear oM nB b2 GG hc hat hsu hset hk3 hkd hmd o2 n2 bb g2 hV
                go_wp2
                rw [hVh.out]
                exact ⟨⟨k + 1, by omega, by go_num, st, Lib.hid (by rw [World.size_setCell]; exact hszw.out)⟩, by simp [intOf]; omega⟩
            · obtain rfl : k = M.length := by omega
              rw [turnK_all] at oM
              obtain ⟨hl1, huM, hpr1, hpr2⟩ := hlk.out V
              have hfm := hfM.out V
              have hMl : (M.map (turnM V)).length = M.length := List.length_map _
              obtain ⟨N, hN⟩ : ∃ N, M.map (turnM V) = N := ⟨_, rfl⟩
              rw [hN] at oM hl1 huM hpr2 hfm hMl
              obtain ⟨S, hS⟩ : ∃ S, Mix.of (textP T frm) = S := ⟨_, rfl⟩
              rw [hS] at hpr1 hpr2
              obtain ⟨sx, sy⟩ := S
              have hq1 : ∀ w, NR w w.heap.size AT T → Calls Try.prog 11 #[.slice AT T.length cT, str frm] w fun e w' => e = .returned (.tuple #[.agg (smA (sx, sy)), .bool true]) ∧ Gr w w' := fun w h => by
                have := print_any AT cT T hfT huT frm w h
                rw [hpr1] at this
                exact this
              have hq2 : ∀ w, NR w w.heap.size AM N → Calls Try.prog 11 #[.slice AM M.length cM, str to] w fun e w' => e = .returned (.tuple #[.agg (smA (sx, sy)), .bool true]) ∧ Gr w w' := fun w h => by
                have := print_any AM cM N hfm huM to w h
                rw [hpr2, hMl] at this
                exact this
              have hq3 : ∀ w, NR w w.heap.size AT T → NR w w.heap.size AM N → Calls Try.prog 9 #[.slice AT T.length cT, str frm, .slice AM M.length cM, str to] w fun e w' => e = .returned (.bool true) ∧ Gr w w' := fun w h1 h2 => by
                have := like_any T N AT AM cT cM hfT hfm 17 frm to w (by omega) h1 h2
                rw [hl1, hMl] at this
                exact this
              have nM : NR wr wr.heap.size AM N := by
                have := OR.reads oM
                rw [← hMl] at this
                exact this
              have gws : w1.heap.size ≤ wr.heap.size := hszw.out
              replace nM := Lib.hid nM
              have nT := Lib.hid (NR.more nB gws)
              have d0 := b2.cell 0
              have d1 := b2.cell 1
              replace b2 := Lib.hid b2
              replace GG := Lib.hid GG
              replace hq1 := Lib.hid hq1
              replace hq2 := Lib.hid hq2
              replace hq3 := Lib.hid hq3
              clear hlk hfM oM nB hl1 huM hpr1 hpr2 hfm hMl hN hS hp1 hfT huT hV
              go_wp2_with fail
              go_at_call 11
              refine (hq1.out _ nT.out).mono ?_
              rintro e w4 ⟨rfl, g1⟩
              have GG := Lib.hid (Gr.trans GG.out g1)
              have nT := Lib.hid (nT.out.on g1)
              have nM := Lib.hid (nM.out.on g1)
              have b2 := blk_more b2.out g1
              have d0 := b2.cell 0
              have d1 := b2.cell 1
              replace b2 := Lib.hid b2
              have bn := Lib.hid (Blk.new w4 30 zS)
              clear g1 hq1
              go_wp2_with (first
                | ((with_reducible refine wpList_isStore 30 (.tmp 11) (.tmp 68) rfl ?_); refine wpList_store_blk rfl 30 (.tmp 11) (.tmp 68) rfl w4.heap.size (smA (sx, sy)) rfl rfl 30 zS bn.out (sumInfo _ _) rfl (by simp [Value.oneCell']) ?_; intro w5 m k z; have GG := Lib.hid (Gr.trans GG.out (Kb.new k)); have nT := Lib.hid (nT.out.on (Kb.new k)); have nM := Lib.hid (nM.out.on (Kb.new k)); have b2 := blk_more b2.out (Kb.new k); have d0 := b2.cell 0; have d1 := b2.cell 1; replace b2 := Lib.hid b2; have b11 := Lib.hid m; clear m k z bn)
                | (go_at_call 11; fail))
              go_at_call 11
              refine (hq2.out _ nM.out).mono ?_
              rintro e w6 ⟨rfl, g1⟩
              have GG := Lib.hid (Gr.trans GG.out g1)
              have nT := Lib.hid (nT.out.on g1)
              have nM := Lib.hid (nM.out.on g1)
              have b2 := blk_more b2.out g1
              have d0 := b2.cell 0
              have d1 := b2.cell 1
              replace b2 := Lib.hid b2
              have b11 := Lib.hid (blk_more b11.out g1)
              have bn := Lib.hid (Blk.new w6 30 zS)
              clear g1 hq2
              go_wp2_with (first
                | ((with_reducible refine wpList_isStore 30 (.tmp 13) (.tmp 75) rfl ?_); refine wpList_store_blk rfl 30 (.tmp 13) (.tmp 75) rfl w6.heap.size (smA (sx, sy)) rfl rfl 30 zS bn.out (sumInfo _ _) rfl (by simp [Value.oneCell']) ?_; intro w7 m k z; have GG := Lib.hid (Gr.trans GG.out (Kb.new k)); have nT := Lib.hid (nT.out.on (Kb.new k)); have nM := Lib.hid (nM.out.on (Kb.new k)); have b2 := blk_more b2.out (Kb.new k); have d0 := b2.cell 0; have d1 := b2.cell 1; replace b2 := Lib.hid b2; have b11 := Lib.hid (blk_more b11.out (Kb.new k)); have b13 := Lib.hid m; clear m k z bn)
                | (go_at_call 7; fail))
              go_at_call 7
              refine (haw.out _).mono ?_
              rintro e w8 ⟨rfl, g1⟩
              have GG := Lib.hid (Gr.trans GG.out g1)
              have nT := Lib.hid (nT.out.on g1)
              have nM := Lib.hid (nM.out.on g1)
              have b2 := blk_more b2.out g1
              have d0 := b2.cell 0
              have d1 := b2.cell 1
              have b11 := blk_more b11.out g1
              have x0 := b11.cell 0
              have x1 := b11.cell 1
              have b13 := blk_more b13.out g1
              have y0 := b13.cell 0
              have y1 := b13.cell 1
              replace b2 := Lib.hid b2
              clear g1 haw b11 b13
              go_wp2_with fail
              go_at_call 9
              refine (hq3.out _ nT.out nM.out).mono ?_
              rintro e w9 ⟨rfl, g1⟩
              have GG := Lib.hid (Gr.trans GG.out g1)
              clear g1 hq3 nT nM b2 d0 d1 x0 x1 y0 y1
              go_wp2
              go_ret
              exact ⟨_, rfl, rfl, GG.out⟩
        · have zb : (Z != 0) = true := by simpa using hz
          clear hz hp1 hfT huT htT
          go_wp2_with fail
          go_at_call 7
          refine (haw.out _).mono ?_
          rintro e w3 ⟨rfl, g2⟩
          have GG := Lib.hid (Gr.trans GG.out g2)
          clear haw g2
          go_wp2
          go_ret
          exact ⟨_, rfl, rfl, GG.out⟩
  · have hsf : smallP l = false := by simpa using hsp
    rw [hsf] at hsm
    clear hsp hsf hr hr0
    go_wp2_with fail
    go_at_call 6
    refine hsm.out.mono ?_
    rintro e w1 ⟨rfl, rfl⟩
    clear hsm
    go_wp2_with fail
    go_at_call 7
    refine (haw.out _).mono ?_
    rintro e w2 ⟨rfl, g2⟩
    have G2 := Lib.hid (Gr.trans g0.out g2)
    clear haw g2 g0 b0
    go_wp2
    go_ret
    exact ⟨_, rfl, rfl, G2.out⟩
end Tr
end Go.Proofs.Yteadcblmomngpaa
