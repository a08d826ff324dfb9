/- The walk of patch.Step. No condition but sizes. -/
import Derived.Test.YtgnogoghfendpaaBlkRef
import Derived.Test.YtgnogoghfendpaaTokCopy
set_option linter.unusedVariables false
set_option linter.unusedSimpArgs false
namespace Go.Proofs.Ytgnogoghfendpaa
open Go Go.RowKit W Bl Tk
namespace Pt
/-- The bytes that a token stands for, or what is wrong. -/
def pstep (old : List UInt8) (size : Int) (t : Tok) : List UInt8 × Nat :=
  if right t then (if t.m = 0 then (t.d, 0) else if count old.length (hold size) < t.f.toNat + t.m.toNat then ([], 6) else (many old (hold size) t.f.toNat t.m.toNat, 0)) else ([], 1)
theorem pstep_bad {old : List UInt8} {size : Int} {t : Tok} (h : right t = false) : pstep old size t = ([], 1) := by unfold pstep; rw [h]; rfl
theorem pstep_lit {old : List UInt8} {size : Int} {t : Tok} (h : right t = true) (hm : t.m = 0) : pstep old size t = (t.d, 0) := by unfold pstep; rw [if_pos h, if_pos hm]
theorem pstep_none {old : List UInt8} {size : Int} {t : Tok} (h : right t = true) (hm : ¬ t.m = 0) (hc : count old.length (hold size) < t.f.toNat + t.m.toNat) : pstep old size t = ([], 6) := by unfold pstep; rw [if_pos h, if_neg hm, if_pos hc]
theorem pstep_some {old : List UInt8} {size : Int} {t : Tok} (h : right t = true) (hm : ¬ t.m = 0) (hc : ¬ count old.length (hold size) < t.f.toNat + t.m.toNat) : pstep old size t = (many old (hold size) t.f.toNat t.m.toNat, 0) := by unfold pstep; rw [if_pos h, if_neg hm, if_neg hc]
def OutP (w : World) (r : List UInt8 × Nat) : Ending → World → Prop := fun e w' => ∃ v, e = .returned (.tuple #[v, .int .i64 (r.2 : Int)]) ∧ isB r.1 v w' ∧ Gr w w'
theorem isB_nil (w : World) : isB [] (.slice none 0 0) w := ⟨none, 0, rfl, by simp, by unfold maxLen; omega, RB.nil_⟩
set_option maxRecDepth 100000 in
set_option maxHeartbeats 4000000 in
theorem step_any (A : Option Addr) (c : Nat) (l : List UInt8) (size : Int) (t : Tok) (w : World) (hs : l.length ≤ 1000000) (hc : l.length ≤ c) (hr : RB w w.heap.size A l) (hf : Fit t) :
    Calls Try.prog 11 #[.slice A l.length c, .int .i64 size, tokV t] w (OutP w (pstep l size t)) := by
  have hro := Lib.hid (fun w => right_any t w hf)
  have bx := Lib.hid (Blk.new w 35 #[.int .i64 t.f, .int .i64 t.m, .string ⟨t.d.toArray⟩])
  have g0 := Lib.hid ((Gr.refl w).alloc (.cells #[.int .i64 t.f, .int .i64 t.m, .string ⟨t.d.toArray⟩] 35))
  have hr' := Lib.hid hr
  clear hr
  cases hrt : right t
  · rw [pstep_bad hrt]
    rw [hrt] at hro
    go_enter Try.func11, Try.ntmps11
    go_wp2_with fail
    go_at_call 22
    refine (hro.out _).mono ?_
    rintro e w1 ⟨rfl, g1⟩
    have G1 := Lib.hid (Gr.trans g0.out g1)
    clear g1 g0 hro bx
    go_wp2
    go_ret2
    exact ⟨_, rfl, isB_nil _, G1.out⟩
  · rw [hrt] at hro
    obtain ⟨p1, p2, p3, p4, p5⟩ := right_spec hrt
    by_cases hm : t.m = 0
    · rw [pstep_lit hrt hm]
      have hdl := (right_fit hrt).2
      obtain ⟨f, m, d⟩ := t
      simp only at hm hdl bx g0 hro
      subst hm
      go_enter Try.func11, Try.ntmps11
      go_wp2_with fail
      go_at_call 22
      refine (hro.out _).mono ?_
      rintro e w1 ⟨rfl, g1⟩
      have G1 := Lib.hid (Gr.trans g0.out g1)
      have b1 := blk_more bx.out g1
      have x1 := b1.cell 1
      have x2 := b1.cell 2
      clear g1 g0 hro bx b1
      go_wp2_with (first
        | (refine wpList_string_bytes rfl (.tmp 19) 9 22 5 rfl Try.underlying9 Try.underlying22 Bl.byteType.1 d rfl (by unfold maxLen; omega) ?_; intro c7 w4 hwb hc7 hm7 g4; have G4 := Lib.hid (Gr.trans G1.out g4); have rS := Lib.hid hwb.rb; clear g4 hwb))
      go_ret2
      exact ⟨_, rfl, ⟨_, c7, rfl, hc7, hm7, rS.out⟩, G4.out⟩
    · obtain ⟨r, hr0⟩ : ∃ r, pstep l size t = r := ⟨_, rfl⟩
      rw [hr0]
      go_enter Try.func11, Try.ntmps11
      go_wp2_with fail
      go_at_call 22
      refine (hro.out _).mono ?_
      rintro e w1 ⟨rfl, g1⟩
      have G1 := Lib.hid (Gr.trans g0.out g1)
      have b1 := blk_more bx.out g1
      have x1 := b1.cell 1
      have bx := Lib.hid b1
      clear g1 g0 hro b1
      have hcn := Lib.hid (fun w => count_any l.length size w (by omega))
      have hmN : t.m = (t.m.toNat : Int) := by omega
      have hfN : t.f = (t.f.toNat : Int) := by omega
      have hatt := Lib.hid (fun w (hr : RB w w.heap.size A l) k (hk : k < count l.length (hold size)) => at_any A c l size k w hs hc hr hk)
      obtain ⟨q, hq0⟩ : ∃ q, decide ((count l.length (hold size) : Int) < t.f + t.m) = q := ⟨_, rfl⟩
      have hbk : r = if q then ([], 6) else (many l (hold size) t.f.toNat t.m.toNat, 0) := by
        cases q with
        | true => exact hr0.symm.trans <| pstep_none hrt hm (by have := of_decide_eq_true hq0; omega)
        | false => exact hr0.symm.trans <| pstep_some hrt hm (by have := of_decide_eq_false hq0; omega)
      have hkq : q = false → t.f.toNat + t.m.toNat ≤ count l.length (hold size) := fun h => by subst h; have := of_decide_eq_false hq0; omega
      have hml : ∀ k, k ≤ 4097 → (many l (hold size) t.f.toNat k).length ≤ 4097 * 64 := fun k hk => Nat.le_trans (many_len _ _ _ _) (Nat.mul_le_mul hk (hold_pos size).2)
      have hms := Lib.hid (fun k => many_succ l (hold size) t.f.toNat k)
      obtain ⟨f, m, d⟩ := t
      simp only at hm p1 p2 p3 p4 hmN hfN hq0 hkq hml hms bx x1 hbk
      generalize m.toNat = tm at *
      generalize f.toNat = tf at *
      have hmH := Lib.hid hmN
      have hfH := Lib.hid hfN
      have hm' : (m == 0) = false := by rw [beq_eq_false_iff_ne]; exact hm
      have htm : 0 < m := by omega
      have hh64 := (hold_pos size).2
      generalize hold size = hh at *
      generalize count l.length hh = cn at *
      have hq := Lib.hid hq0
      replace hkq := Lib.hid hkq
      clear hq0 p5 hm hrt hmN hfN hf hr0
      replace hbk := Lib.hid hbk
      go_wp2
      refine region_grow (by kernel_rfl) (by kernel_rfl) ?_
      refine GW.p1 (.pointer (some ⟨w.heap.size, 0, none⟩)) rfl trivial (kn0 (t := 5) (c := .pointer (some ⟨w.heap.size, 0, none⟩)) (by kernel_rfl) rfl) (fun ρ w' hρ hg => by simp [execOp, hρ, go_sem]) ?_
      refine GW.p1 (.int .i64 f) rfl trivial (kn (t := 22) (j := 0) (by kernel_rfl)) (fun ρ w' hρ hg => by simp [execOp, hρ, go_sem, (hg.cell (p := ⟨w.heap.size, 0, none⟩) bx.out.lt).trans (bx.out.cell 0)]) ?_
      refine GW.p1 (.pointer (some ⟨w.heap.size, 1, none⟩)) rfl trivial (kn0 (t := 5) (c := .pointer (some ⟨w.heap.size, 0, none⟩)) (by kernel_rfl) rfl) (fun ρ w' hρ hg => by simp [execOp, hρ, go_sem]) ?_
      refine GW.p1 (.int .i64 m) rfl trivial (kn (t := 24) (j := 2) (by kernel_rfl)) (fun ρ w' hρ hg => by simp [execOp, hρ, go_sem, (hg.cell (p := ⟨w.heap.size, 1, none⟩) bx.out.lt).trans (bx.out.cell 1)]) ?_
      refine GW.bin (.int .i64 (f + m)) rfl trivial rfl (kn (t := 23) (j := 1) (by kernel_rfl)) (kn (t := 25) (j := 3) (by kernel_rfl)) (fun w' => by simp [go_sem]; exact IntWalk.i64_in _ (by omega)) ?_
      refine GW.mv rfl trivial (.inl rfl) (kn0 (t := 0) (c := .slice A l.length c) (by kernel_rfl) rfl) (eqv_lasts _) ?_
      refine GW.lenV rfl trivial rfl Try.underlying22 (kn (t := 27) (j := 5) (by kernel_rfl)) ?_
      refine GW.mv rfl trivial (.inl rfl) (kn0 (t := 1) (c := .int .i64 size) (by kernel_rfl) rfl) (eqv_lasts _) ?_
      refine GW.call2 (eqv (.int .i64 (cn : Int))) rfl trivial rfl Try.func23 (by kernel_rfl) (by kernel_rfl) (eqv_lasts _) (kn (t := 28) (j := 6) (by kernel_rfl)) (kn (t := 29) (j := 7) (by kernel_rfl)) (fun v u w' hg hv hu => ?_) ?_
      · obtain rfl : v = _ := hv
        obtain rfl : u = _ := hu
        refine (hcn.out w').mono ?_
        rintro e w9 ⟨rfl, rfl⟩
        exact ⟨_, rfl, rfl, Gr.refl _⟩
      refine GW.bin (.bool q) rfl trivial rfl (kn (t := 26) (j := 4) (by kernel_rfl)) (kn (t := 30) (j := 8) (by kernel_rfl)) (fun w' => by rw [← hq.out]; simp [go_sem]) ?_
      refine GW.mv rfl trivial (.inr rfl) (kn (t := 31) (j := 9) (by kernel_rfl)) (eqv_lasts _) ?_
      refine GW.done (by simp) (by kernel_rfl) (fun w' hg_ => ?_)
      intro v0 _ v1 _ v2 _ v3 _ v4 _ v5 _ v6 _ v7 _ v8 _ v9 _ v10 h10
      obtain rfl : v10 = (.bool q) := h10
      simp only [GFin, Act.put, List.setIfInBounds_toArray, List.set_cons_succ, List.set_cons_zero]
      have G2 := Lib.hid (Gr.trans G1.out hg_)
      have b2 := blk_more bx.out hg_
      have x1 := b2.cell 1
      have bx := Lib.hid b2
      clear hg_ b2 hq hcn
      cases q with
      | true =>
        obtain rfl : r = ([], 6) := hbk.out
        clear hbk
        go_wp2
        go_ret2
        exact ⟨_, rfl, isB_nil _, G2.out⟩
      | false =>
        obtain rfl : r = (many l hh tf tm, 0) := hbk.out
        clear hbk
        have hkq := hkq.out rfl
        have hrz := Lib.hid ((hr'.out.below G2.out).more (Below.size G2.out))
        have hmL : Hid (many l hh tf 0 = []) := Lib.hid rfl
        go_wp2
        go_loopw [8, 9, 34] (fun out _ i wr => ∃ k : Nat, k ≤ tm ∧ i = .int .i64 (k : Int) ∧ (∃ A0 c0, out = .slice A0 (many l hh tf k).length c0 ∧ OB 5 wr w'.heap.size (.slice A0 (many l hh tf k).length c0) (many l hh tf k)) ∧ Gr w' wr) (fun _ _ i _ => tm - (intOf i).toNat)
        case atStart => exact ⟨0, by omega, rfl, ⟨none, 0, rfl, OB.nil_⟩, Gr.refl w'⟩
        case round =>
          obtain ⟨k, hk, rfl, ⟨A0, c0, rfl, ho⟩, hg⟩ := hrel
          by_cases h : k < tm
          · have hki : (k : Int) < m := by have := hmH.out; omega
            have hk6 : tf + k ≤ 4097 := by have := hmH.out; have := hfH.out; omega
            have hmk := Lib.hid (hms.out k)
            have hlk := hml k (by have := hmH.out; omega)
            have hca0 := hatt.out wr ((hrz.out.below hg).more hg.size) (tf + k) (by omega)
            rw [show ((tf + k : Nat) : Int) = f + (k : Int) by have := hfH.out; omega] at hca0
            have hca := Lib.hid hca0
            clear hca0
            have b3 := blk_more bx.out hg
            have y0 := b3.cell 0
            have al := at_len l hh (tf + k)
            have hlm : m ≤ 4097 := by omega
            have hfk : f + (k : Int) ≤ 4097 := by omega
            generalize many l hh tf k = P at *
            generalize at_ l hh (tf + k) = B at *
            have ho' := Lib.hid ho
            have hg' := Lib.hid hg
            clear ho hg b3 x1
            go_wp2_with fail
            go_at_call 24
            refine (hca.out).mono ?_
            rintro e w2 ⟨A2, c2, rfl, o2, g2⟩
            have o3 := Lib.hid (ho'.out.below g2)
            have o2' := Lib.hid o2.rb
            have G3 := Lib.hid (Gr.trans hg'.out g2)
            clear ho' hg' hca o2 g2 y0
            go_wp2_with (first
              | ((with_reducible refine wpList_isApp (.tmp 37) (.tmp 44) 22 rfl ?_); refine wpList_append_bytes _ rfl (.tmp 37) (.tmp 44) 22 rfl w'.heap.size 5 Try.underlying22 Bl.byteType _ P rfl (by exact o3.out) w2.heap.size _ _ _ B rfl rfl (by exact o2'.out) (by omega) (by have := G3.out.size; omega) (many l hh tf (k + 1)) hmk.out (many l hh tf (k + 1)).length rfl ?_; intro A9 c9 w9 o9 b9; have g9 := Lib.hid (Below.trans G3.out b9); have o9 := Lib.hid o9; clear o3 o2' G3 b9))
            go_roundw
            case rel => exact ⟨k + 1, by omega, rfl, ⟨A9, c9, rfl, o9.out⟩, g9.out⟩
            case measure => simp [intOf]; omega
          · obtain rfl : k = tm := by omega
            have hki : ¬ (k : Int) < m := by have := hmH.out; omega
            replace ho := Lib.hid ho
            generalize many l hh tf k = P at *
            go_wp2
            go_ret2
            obtain ⟨A9, c9, hsh, hq1, hq2⟩ := ho.out.shape
            exact ⟨_, rfl, isB_of_own ho.out, Gr.trans G2.out hg⟩
end Pt
end Go.Proofs.Ytgnogoghfendpaa

