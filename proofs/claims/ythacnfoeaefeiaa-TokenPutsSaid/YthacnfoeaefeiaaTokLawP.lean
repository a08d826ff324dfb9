/- The walk of TokenPuts. No condition but that numbers lie in their ranges. -/
import Derived.Test.YthacnfoeaefeiaaTokLawG
set_option linter.unusedVariables false
set_option linter.unusedSimpArgs false
namespace Go.Proofs.Ythacnfoeaefeiaa
open Go Go.RowKit W Vint
namespace Tk
theorem run_neq_str {P : Program} (l : List UInt8) (T : TypeId) (x y : Operand) (w : World) : (do eqGuard .neq T x y (str l) (str l); binOp .neq T (str l) (str l) : Sem Value).run P w = .ok (.bool false) w := by
  simp [go_sem]
theorem putB_len {l : List Tok} (h : l.length ≤ 30) : (putB l).length ≤ 500000 := by
  unfold putB
  split
  · rename_i ha
    have := pre_le l (List.all_eq_true.1 ha)
    omega
  · simp
theorem allTake (l : List Tok) (k : Nat) (h : k < l.length) : (l.take (k + 1)).all right = ((l.take k).all right && right l[k]) := by
  rw [List.take_succ_eq_append_getElem h, List.all_append]
  simp
theorem gets_nil : gets [] = ([], 0) := by unfold gets; simp [getsF]
theorem gets_of_put (l : List Tok) : gets (putB l) = (if l.all right then l else [], 0) := by
  by_cases h : l.all right = true
  · rw [if_pos h]; exact gets_put h
  · unfold putB; rw [if_neg h, if_neg h]; exact gets_nil
set_option maxRecDepth 100000 in
set_option maxHeartbeats 8000000 in
theorem tokenPuts_walk (A : Option Addr) (c : Nat) (l : List Tok) (A2 : Option Addr) (c2 : Nat) (m : List Tok) (w : World) (hc : l.length ≤ c) (hm : c ≤ maxLen) (hr : TR w w.heap.size A l) (hx : ∀ t ∈ l, Bnd t)
    (hc2 : m.length ≤ c2) (hm2 : c2 ≤ maxLen) (hr2 : TR w w.heap.size A2 m) (hx2 : ∀ t ∈ m, Bnd t) :
    Calls Try.prog 4 #[.slice A l.length c, .slice A2 m.length c2] w (Ret (eqv (.bool true)) w) := by
  have hfe := Lib.hid (fun w (h : TR w w.heap.size A l) => few_any A c l w h (fun t ht => by have := (hx t ht).2.2.2.2; unfold maxLen at this; omega) (by unfold maxLen at hm; omega))
  have hfe2 := Lib.hid (fun w (h : TR w w.heap.size A2 m) => few_any A2 c2 m w h (fun t ht => by have := (hx2 t ht).2.2.2.2; unfold maxLen at this; omega) (by unfold maxLen at hm2; omega))
  have hr' := Lib.hid hr
  have hr2' := Lib.hid hr2
  have hx' := Lib.hid hx
  have hx2' := Lib.hid hx2
  clear hr hr2 hm hm2 hx hx2
  by_cases hq : fewB l = true
  · by_cases hq2 : fewB m = true
    · obtain ⟨h30, hF0, _⟩ := few_fits hq hx'.out
      obtain ⟨h302, hF02, _⟩ := few_fits hq2 hx2'.out
      have hF := Lib.hid hF0
      rw [hq] at hfe
      rw [hq2] at hfe2
      clear hF0 hF02 hx' hx2' hq hq2
      obtain ⟨P, hP0⟩ : ∃ P, putB l = P := ⟨_, rfl⟩
      have hPl : P.length ≤ 500000 := by rw [← hP0]; exact putB_len h30
      have hPg : Hid (gets P = (if l.all right then l else [], 0)) := Lib.hid (by rw [← hP0]; exact gets_of_put l)
      have hP := Lib.hid hP0
      clear hP0
      go_enter Try.func4, Try.ntmps4
      go_wp2_with fail
      go_at_call 6
      refine (hfe.out _ hr'.out).mono ?_
      rintro e w1 ⟨rfl, g1⟩
      have r1 := Lib.hid ((hr'.out.below g1).more g1.size)
      have s1 := Lib.hid ((hr2'.out.below g1).more g1.size)
      replace g1 := Lib.hid g1
      clear hfe
      go_wp2_with fail
      go_at_call 6
      refine (hfe2.out _ s1.out).mono ?_
      rintro e w2 ⟨rfl, g2⟩
      have r2 := Lib.hid ((r1.out.below g2).more g2.size)
      have s2 := Lib.hid ((s1.out.below g2).more g2.size)
      have G2 := Lib.hid (Gr.trans g1.out g2)
      clear hfe2 r1 s1 g1 g2
      go_wp2_with fail
      go_at_call 9
      refine (to_any A c l _ r2.out (by omega)).mono ?_
      rintro e w3 ⟨A3, c3, rfl, o3, g3⟩
      have q3 := Lib.hid (OT.tr o3)
      have s3 := Lib.hid ((s2.out.below g3).more g3.size)
      have r3 := Lib.hid ((r2.out.below g3).more g3.size)
      have G3 := Lib.hid (Gr.trans G2.out g3)
      clear r2 s2 G2 g3 o3
      go_wp2_with fail
      go_at_call 9
      refine (to_any A2 c2 m _ s3.out (by omega)).mono ?_
      rintro e w4 ⟨A4, c4, rfl, o4, g4⟩
      have qb4 := Lib.hid (OT.tr o4)
      have qm4 := Lib.hid ((s3.out.below g4).more g4.size)
      have ql4 := Lib.hid ((r3.out.below g4).more g4.size)
      have qa4 := Lib.hid ((q3.out.below g4).more g4.size)
      have G4 := Lib.hid (Gr.trans G3.out g4)
      clear r3 s3 q3 G3 g4 o4
      go_wp2
      go_loopw [7, 8] (fun rt i wr => ∃ k : Nat, k ≤ l.length ∧ i = .int .i64 (k : Int) ∧ rt = .bool ((l.take k).all right) ∧ Gr w4 wr) (fun _ i _ => l.length - (intOf i).toNat)
      case atStart => exact ⟨0, by omega, rfl, rfl, Gr.refl w4⟩
      case round =>
        obtain ⟨k, hk, rfl, rfl, hg⟩ := hrel
        by_cases h : k < l.length
        · obtain ⟨ad, hA, hlt, e0, e1, e2⟩ := (ql4.out.below hg).at_ h
          obtain ⟨ad2, hA2, hlt', f0, f1, f2⟩ := (qa4.out.below hg).at_ h
          subst hA hA2
          have hft := hF.out.2 l[k] (List.getElem_mem h)
          have hat := Lib.hid (allTake l k h)
          have i1 : (0 : Int) ≤ (k : Int) := by omega
          have i2 : (k : Int) < (l.length : Int) := by omega
          have hlt2 : (ad.add (k * 3)).block < wr.heap.size := by rw [block_of_add]; exact Nat.lt_of_lt_of_le hlt (Below.size hg)
          have hlt3 : (ad2.add (k * 3)).block < wr.heap.size := by rw [block_of_add]; exact Nat.lt_of_lt_of_le hlt' (Below.size hg)
          generalize l[k] = t at *
          generalize (l.take k).all right = rt at *
          cases rt with
          | true =>
            have hro := Lib.hid (refRight_any t wr hft)
            have hgh := Lib.hid hg
            clear hg
            go_wp2_with fail
            go_at_call 16
            refine hro.out.mono ?_
            rintro e w5 ⟨rfl, g5⟩
            have hg := Gr.trans hgh.out g5
            have e0 := (g5.cell (p := ad.add (k * 3)) hlt2).trans e0
            have e1 := (g5.cell (p := ⟨(ad.add (k * 3)).block, (ad.add (k * 3)).off + 1, none⟩) hlt2).trans e1
            have e2 := (g5.cell (p := ⟨(ad.add (k * 3)).block, (ad.add (k * 3)).off + 2, none⟩) hlt2).trans e2
            have f0 := (g5.cell (p := ad2.add (k * 3)) hlt3).trans f0
            have f1 := (g5.cell (p := ⟨(ad2.add (k * 3)).block, (ad2.add (k * 3)).off + 1, none⟩) hlt3).trans f1
            have f2 := (g5.cell (p := ⟨(ad2.add (k * 3)).block, (ad2.add (k * 3)).off + 2, none⟩) hlt3).trans f2
            have hlt2 := Nat.lt_of_lt_of_le hlt2 (Below.size g5)
            have hlt3 := Nat.lt_of_lt_of_le hlt3 (Below.size g5)
            have hg1 := Lib.hid hg
            clear hro g5 hgh
            go_wp2
            refine region_grow (by kernel_rfl) (by kernel_rfl) ?_
            refine GW.mv rfl trivial (.inl rfl) (kn0 (t := 5) (c := .slice (some ad2) l.length c3) (by kernel_rfl) rfl) (eqv_lasts _) ?_
            refine GW.mv rfl trivial (.inl rfl) (kn0 (t := 8) (c := .int .i64 (k : Int)) (by kernel_rfl) rfl) (eqv_lasts _) ?_
            refine GW.p2 (.pointer (some (ad2.add (k * 3)))) rfl trivial (kn (t := 39) (j := 0) (by kernel_rfl)) (kn (t := 40) (j := 1) (by kernel_rfl)) (fun ρ w' h1 h2 hg => by show ((Instr.indexAt 25 (ρ (.tmp 39)) (ρ (.tmp 40)) >>= fun v => pure (Next.value v)) : Sem Next).run Try.prog w' = _; rw [h1, h2, Sem.run_bind, run_idxR w' Try.underlying25 (size := 3) (by kernel_rfl) ad2 l.length c3 k h]; rfl) ?_
            refine GW.p1 (tokV t) rfl trivial (kn (t := 41) (j := 2) (by kernel_rfl)) (fun ρ w' hρ hg => by show ((Instr.loadAt 39 (ρ (.tmp 41)) >>= fun v => pure (Next.value v)) : Sem Next).run Try.prog w' = _; rw [hρ, Sem.run_bind, run_ldTok (.inl rfl) w' _ _ t ((hg.cell (p := ad2.add (k * 3)) hlt3).trans f0) ((hg.cell (p := ⟨(ad2.add (k * 3)).block, (ad2.add (k * 3)).off + 1, none⟩) hlt3).trans f1) ((hg.cell (p := ⟨(ad2.add (k * 3)).block, (ad2.add (k * 3)).off + 2, none⟩) hlt3).trans f2) rfl]; rfl) ?_
            refine GW.call1 (eqv (.bool (right t))) rfl trivial rfl Try.func17 (by kernel_rfl) (by kernel_rfl) (eqv_lasts _) (kn (t := 42) (j := 3) (by kernel_rfl)) (fun v w' hg hv => ?_) ?_
            · obtain rfl : v = _ := hv
              refine (right_any t w' hft).mono ?_
              rintro e w9 ⟨rfl, hg9⟩
              exact ⟨_, rfl, rfl, hg9⟩
            refine GW.mv rfl trivial (.inl rfl) (kn0 (t := 0) (c := .slice (some ad) l.length c) (by kernel_rfl) rfl) (eqv_lasts _) ?_
            refine GW.mv rfl trivial (.inl rfl) (kn0 (t := 8) (c := .int .i64 (k : Int)) (by kernel_rfl) rfl) (eqv_lasts _) ?_
            refine GW.p2 (.pointer (some (ad.add (k * 3)))) rfl trivial (kn (t := 44) (j := 5) (by kernel_rfl)) (kn (t := 45) (j := 6) (by kernel_rfl)) (fun ρ w' h1 h2 hg => by show ((Instr.indexAt 22 (ρ (.tmp 44)) (ρ (.tmp 45)) >>= fun v => pure (Next.value v)) : Sem Next).run Try.prog w' = _; rw [h1, h2, Sem.run_bind, run_idxR w' Try.underlying22 (size := 3) (by kernel_rfl) ad l.length c k h]; rfl) ?_
            refine GW.p1 (tokV t) rfl trivial (kn (t := 46) (j := 7) (by kernel_rfl)) (fun ρ w' hρ hg => by show ((Instr.loadAt 37 (ρ (.tmp 46)) >>= fun v => pure (Next.value v)) : Sem Next).run Try.prog w' = _; rw [hρ, Sem.run_bind, run_ldTok (.inr rfl) w' _ _ t ((hg.cell (p := ad.add (k * 3)) hlt2).trans e0) ((hg.cell (p := ⟨(ad.add (k * 3)).block, (ad.add (k * 3)).off + 1, none⟩) hlt2).trans e1) ((hg.cell (p := ⟨(ad.add (k * 3)).block, (ad.add (k * 3)).off + 2, none⟩) hlt2).trans e2) rfl]; rfl) ?_
            refine GW.call1 (eqv (.bool (right t))) rfl trivial rfl Try.func16 (by kernel_rfl) (by kernel_rfl) (eqv_lasts _) (kn (t := 47) (j := 8) (by kernel_rfl)) (fun v w' hg hv => ?_) ?_
            · obtain rfl : v = _ := hv
              refine (refRight_any t w' hft).mono ?_
              rintro e w9 ⟨rfl, hg9⟩
              exact ⟨_, rfl, rfl, hg9⟩
            refine GW.bin (.bool false) rfl trivial rfl (kn (t := 43) (j := 4) (by kernel_rfl)) (kn (t := 48) (j := 9) (by kernel_rfl)) (fun w' => by cases right t <;> simp [go_sem]) ?_
            refine GW.done (by simp) (by kernel_rfl) (fun w' hg_ => ?_)
            intro v0 _ v1 _ v2 _ v3 _ v4 _ v5 _ v6 _ v7 _ v8 _ v9 _ v10 h10
            obtain rfl : v10 = (.bool false) := h10
            simp only [GFin, Act.put, List.setIfInBounds_toArray, List.set_cons_succ, List.set_cons_zero]
            clear e0 e1 e2 f0 f1 f2
            go_wp2
            go_roundw
            case rel => exact ⟨k + 1, by omega, by go_num, by rw [hat.out]; simp, Gr.trans hg1.out hg_⟩
            case measure => simp [intOf]; omega
          | false =>
            have hg1 := Lib.hid hg
            go_wp2
            refine region_grow (by kernel_rfl) (by kernel_rfl) ?_
            refine GW.mv rfl trivial (.inl rfl) (kn0 (t := 5) (c := .slice (some ad2) l.length c3) (by kernel_rfl) rfl) (eqv_lasts _) ?_
            refine GW.mv rfl trivial (.inl rfl) (kn0 (t := 8) (c := .int .i64 (k : Int)) (by kernel_rfl) rfl) (eqv_lasts _) ?_
            refine GW.p2 (.pointer (some (ad2.add (k * 3)))) rfl trivial (kn (t := 39) (j := 0) (by kernel_rfl)) (kn (t := 40) (j := 1) (by kernel_rfl)) (fun ρ w' h1 h2 hg => by show ((Instr.indexAt 25 (ρ (.tmp 39)) (ρ (.tmp 40)) >>= fun v => pure (Next.value v)) : Sem Next).run Try.prog w' = _; rw [h1, h2, Sem.run_bind, run_idxR w' Try.underlying25 (size := 3) (by kernel_rfl) ad2 l.length c3 k h]; rfl) ?_
            refine GW.p1 (tokV t) rfl trivial (kn (t := 41) (j := 2) (by kernel_rfl)) (fun ρ w' hρ hg => by show ((Instr.loadAt 39 (ρ (.tmp 41)) >>= fun v => pure (Next.value v)) : Sem Next).run Try.prog w' = _; rw [hρ, Sem.run_bind, run_ldTok (.inl rfl) w' _ _ t ((hg.cell (p := ad2.add (k * 3)) hlt3).trans f0) ((hg.cell (p := ⟨(ad2.add (k * 3)).block, (ad2.add (k * 3)).off + 1, none⟩) hlt3).trans f1) ((hg.cell (p := ⟨(ad2.add (k * 3)).block, (ad2.add (k * 3)).off + 2, none⟩) hlt3).trans f2) rfl]; rfl) ?_
            refine GW.call1 (eqv (.bool (right t))) rfl trivial rfl Try.func17 (by kernel_rfl) (by kernel_rfl) (eqv_lasts _) (kn (t := 42) (j := 3) (by kernel_rfl)) (fun v w' hg hv => ?_) ?_
            · obtain rfl : v = _ := hv
              refine (right_any t w' hft).mono ?_
              rintro e w9 ⟨rfl, hg9⟩
              exact ⟨_, rfl, rfl, hg9⟩
            refine GW.mv rfl trivial (.inl rfl) (kn0 (t := 0) (c := .slice (some ad) l.length c) (by kernel_rfl) rfl) (eqv_lasts _) ?_
            refine GW.mv rfl trivial (.inl rfl) (kn0 (t := 8) (c := .int .i64 (k : Int)) (by kernel_rfl) rfl) (eqv_lasts _) ?_
            refine GW.p2 (.pointer (some (ad.add (k * 3)))) rfl trivial (kn (t := 44) (j := 5) (by kernel_rfl)) (kn (t := 45) (j := 6) (by kernel_rfl)) (fun ρ w' h1 h2 hg => by show ((Instr.indexAt 22 (ρ (.tmp 44)) (ρ (.tmp 45)) >>= fun v => pure (Next.value v)) : Sem Next).run Try.prog w' = _; rw [h1, h2, Sem.run_bind, run_idxR w' Try.underlying22 (size := 3) (by kernel_rfl) ad l.length c k h]; rfl) ?_
            refine GW.p1 (tokV t) rfl trivial (kn (t := 46) (j := 7) (by kernel_rfl)) (fun ρ w' hρ hg => by show ((Instr.loadAt 37 (ρ (.tmp 46)) >>= fun v => pure (Next.value v)) : Sem Next).run Try.prog w' = _; rw [hρ, Sem.run_bind, run_ldTok (.inr rfl) w' _ _ t ((hg.cell (p := ad.add (k * 3)) hlt2).trans e0) ((hg.cell (p := ⟨(ad.add (k * 3)).block, (ad.add (k * 3)).off + 1, none⟩) hlt2).trans e1) ((hg.cell (p := ⟨(ad.add (k * 3)).block, (ad.add (k * 3)).off + 2, none⟩) hlt2).trans e2) rfl]; rfl) ?_
            refine GW.call1 (eqv (.bool (right t))) rfl trivial rfl Try.func16 (by kernel_rfl) (by kernel_rfl) (eqv_lasts _) (kn (t := 47) (j := 8) (by kernel_rfl)) (fun v w' hg hv => ?_) ?_
            · obtain rfl : v = _ := hv
              refine (refRight_any t w' hft).mono ?_
              rintro e w9 ⟨rfl, hg9⟩
              exact ⟨_, rfl, rfl, hg9⟩
            refine GW.bin (.bool false) rfl trivial rfl (kn (t := 43) (j := 4) (by kernel_rfl)) (kn (t := 48) (j := 9) (by kernel_rfl)) (fun w' => by cases right t <;> simp [go_sem]) ?_
            refine GW.done (by simp) (by kernel_rfl) (fun w' hg_ => ?_)
            intro v0 _ v1 _ v2 _ v3 _ v4 _ v5 _ v6 _ v7 _ v8 _ v9 _ v10 h10
            obtain rfl : v10 = (.bool false) := h10
            simp only [GFin, Act.put, List.setIfInBounds_toArray, List.set_cons_succ, List.set_cons_zero]
            clear e0 e1 e2 f0 f1 f2
            go_wp2
            go_roundw
            case rel => exact ⟨k + 1, by omega, by go_num, by rw [hat.out]; simp, Gr.trans hg1.out hg_⟩
            case measure => simp [intOf]; omega
        · obtain rfl : k = l.length := by omega
          rw [List.take_length]
          obtain ⟨rt, hrt⟩ : ∃ rt, l.all right = rt := ⟨_, rfl⟩
          rw [hrt] at hPg ⊢
          have qa5 := Lib.hid ((qa4.out.below hg).more hg.size)
          have qb5 := Lib.hid ((qb4.out.below hg).more hg.size)
          have qm5 := Lib.hid ((qm4.out.below hg).more hg.size)
          have ql5 := Lib.hid ((ql4.out.below hg).more hg.size)
          have G5 := Lib.hid (Gr.trans G4.out hg)
          clear hg hrt
          have hcp := Lib.hid (by have h := putw_any A3 c3 l wr qa5.out hF.out (by omega); rw [hP.out] at h; exact h : Calls Try.prog 18 #[.slice A3 l.length c3] wr (Out 5 wr P))
          go_wp2_with fail
          go_at_call 18
          refine hcp.out.mono ?_
          rintro e w6 ⟨A9, c9, rfl, o6, g6⟩
          have qa6 := Lib.hid ((qa5.out.below g6).more g6.size)
          have qb6 := Lib.hid ((qb5.out.below g6).more g6.size)
          have qm6 := Lib.hid ((qm5.out.below g6).more g6.size)
          have ql6 := Lib.hid ((ql5.out.below g6).more g6.size)
          have G6 := Lib.hid (Gr.trans G5.out g6)
          have rP := Lib.hid (OB.rb o6)
          replace o6 := Lib.hid o6
          clear hcp qa5 qb5 qm5 ql5 G5 g6
          have hcg := Lib.hid (by have h := getw_any A9 c9 P w6 (by omega) rP.out; rw [hPg.out] at h; exact h : Calls Try.prog 19 #[.slice A9 P.length c9] w6 (OutG w6 (if rt then l else [], 0)))
          obtain ⟨B, hB⟩ : ∃ B, (if rt then l else []) = B := ⟨_, rfl⟩
          rw [hB] at hcg
          replace hB := Lib.hid hB
          go_wp2_with fail
          go_at_call 19
          refine hcg.out.mono ?_
          rintro e w7 ⟨A10, c10, rfl, o7, g7⟩
          have q10 := Lib.hid (OT.tr o7)
          have qa := Lib.hid ((qa6.out.below g7).more g7.size)
          have qb := Lib.hid ((qb6.out.below g7).more g7.size)
          have qm := Lib.hid ((qm6.out.below g7).more g7.size)
          have ql := Lib.hid ((ql6.out.below g7).more g7.size)
          have G7 := Lib.hid (Gr.trans G6.out g7)
          have oP := Lib.hid (OB.below o6.out g7)
          clear hcg qa6 qb6 qm6 ql6 G6 rP o6 o7 g7
          go_wp2
          refine region_grow (by kernel_rfl) (by kernel_rfl) ?_
          refine GW.mv rfl trivial (.inl rfl) (kn0' (t := 9) (c := .slice A9 P.length c9) (by kernel_rfl) rfl (isB_lasts _) (isB_of_own oP.out)) (isB_lasts _) ?_
          refine GW.bs (P) rfl trivial rfl Try.underlying40 byteType.1 Try.underlying9 (kn (t := 57) (j := 0) (by kernel_rfl)) ?_
          refine GW.mv rfl trivial (.inl rfl) (kn0 (t := 0) (c := .slice A l.length c) (by kernel_rfl) rfl) (eqv_lasts _) ?_
          refine GW.call1 (eqv (str P)) rfl trivial rfl Try.func20 (by kernel_rfl) (by kernel_rfl) (eqv_lasts _) (kn (t := 59) (j := 2) (by kernel_rfl)) (fun v w' hg hv => ?_) ?_
          · obtain rfl : v = _ := hv
            refine (refPutw_any A c l w' ((ql.out.below hg).more hg.size) hF.out (by omega)).mono ?_
            rw [hP.out]
            rintro e w9 ⟨rfl, hg9⟩
            exact ⟨_, rfl, rfl, hg9⟩
          refine GW.bin (.bool false) rfl trivial rfl (kn (t := 58) (j := 1) (by kernel_rfl)) (kn (t := 60) (j := 3) (by kernel_rfl)) (fun w' => run_neq_str P _ _ _ w') ?_
          refine GW.mv rfl trivial (.inl rfl) (kn (t := 61) (j := 4) (by kernel_rfl)) (eqv_lasts _) ?_
          refine GW.mv rfl ⟨62, by kernel_rfl, by kernel_rfl, fun _ _ h => h⟩ (.inl rfl) (kn0 (t := 5) (c := .slice A3 l.length c3) (by kernel_rfl) rfl) (eqv_lasts _) ?_
          refine GW.mv rfl ⟨62, by kernel_rfl, by kernel_rfl, fun _ _ h => h⟩ (.inl rfl) (kn0 (t := 6) (c := .slice A4 m.length c4) (by kernel_rfl) rfl) (eqv_lasts _) ?_
          refine GW.call2 (eqv (.bool (decide (l = m)))) rfl ⟨62, by kernel_rfl, by kernel_rfl, fun _ _ h => h⟩ rfl Try.func13 (by kernel_rfl) (by kernel_rfl) (eqv_lasts _) (kn (t := 63) (j := 6) (by kernel_rfl)) (kn (t := 64) (j := 7) (by kernel_rfl)) (fun v u w' hg hv hu => ?_) ?_
          · obtain rfl : v = _ := hv
            obtain rfl : u = _ := hu
            refine (same_any A3 c3 l A4 c4 m w' ((qa.out.below hg).more hg.size) ((qb.out.below hg).more hg.size) (by omega)).mono ?_
            rintro e w9 ⟨rfl, hg9⟩
            exact ⟨_, rfl, rfl, hg9⟩
          refine GW.mv rfl ⟨62, by kernel_rfl, by kernel_rfl, fun _ _ h => h⟩ (.inl rfl) (kn0 (t := 0) (c := .slice A l.length c) (by kernel_rfl) rfl) (eqv_lasts _) ?_
          refine GW.mv rfl ⟨62, by kernel_rfl, by kernel_rfl, fun _ _ h => h⟩ (.inl rfl) (kn0 (t := 1) (c := .slice A2 m.length c2) (by kernel_rfl) rfl) (eqv_lasts _) ?_
          refine GW.call2 (eqv (.bool (decide (l = m)))) rfl ⟨62, by kernel_rfl, by kernel_rfl, fun _ _ h => h⟩ rfl Try.func10 (by kernel_rfl) (by kernel_rfl) (eqv_lasts _) (kn (t := 66) (j := 9) (by kernel_rfl)) (kn (t := 67) (j := 10) (by kernel_rfl)) (fun v u w' hg hv hu => ?_) ?_
          · obtain rfl : v = _ := hv
            obtain rfl : u = _ := hu
            refine (refSame_any A c l A2 c2 m w' ((ql.out.below hg).more hg.size) ((qm.out.below hg).more hg.size) (by omega)).mono ?_
            rintro e w9 ⟨rfl, hg9⟩
            exact ⟨_, rfl, rfl, hg9⟩
          refine GW.bin (.bool false) rfl ⟨62, by kernel_rfl, by kernel_rfl, fun _ _ h => h⟩ rfl (kn (t := 65) (j := 8) (by kernel_rfl)) (kn (t := 68) (j := 11) (by kernel_rfl)) (fun w' => by cases decide (l = m) <;> simp [go_sem]) ?_
          refine GW.pick (b := false) rfl trivial rfl (kn (t := 62) (j := 5) (by kernel_rfl)) (kn (t := 69) (j := 12) (by kernel_rfl)) (eqv_lasts _) ?_
          refine GW.mv rfl trivial (.inl rfl) (kn (t := 70) (j := 13) (by kernel_rfl)) (eqv_lasts _) ?_
          refine GW.mv rfl ⟨71, by kernel_rfl, by kernel_rfl, fun _ _ h => h⟩ (.inl rfl) (kn0 (t := 5) (c := .slice A3 l.length c3) (by kernel_rfl) rfl) (eqv_lasts _) ?_
          refine GW.call1 (eqv (.int .i64 (bytes l : Int))) rfl ⟨71, by kernel_rfl, by kernel_rfl, fun _ _ h => h⟩ rfl Try.func14 (by kernel_rfl) (by kernel_rfl) (eqv_lasts _) (kn (t := 72) (j := 15) (by kernel_rfl)) (fun v w' hg hv => ?_) ?_
          · obtain rfl : v = _ := hv
            refine (bytes_any A3 c3 l w' ((qa.out.below hg).more hg.size) hF.out (by omega)).mono ?_
            rintro e w9 ⟨rfl, hg9⟩
            exact ⟨_, rfl, rfl, hg9⟩
          refine GW.mv rfl ⟨71, by kernel_rfl, by kernel_rfl, fun _ _ h => h⟩ (.inl rfl) (kn0 (t := 0) (c := .slice A l.length c) (by kernel_rfl) rfl) (eqv_lasts _) ?_
          refine GW.call1 (eqv (.int .i64 (bytes l : Int))) rfl ⟨71, by kernel_rfl, by kernel_rfl, fun _ _ h => h⟩ rfl Try.func15 (by kernel_rfl) (by kernel_rfl) (eqv_lasts _) (kn (t := 74) (j := 17) (by kernel_rfl)) (fun v w' hg hv => ?_) ?_
          · obtain rfl : v = _ := hv
            refine (refBytes_any A c l w' ((ql.out.below hg).more hg.size) hF.out (by omega)).mono ?_
            rintro e w9 ⟨rfl, hg9⟩
            exact ⟨_, rfl, rfl, hg9⟩
          refine GW.bin (.bool false) rfl ⟨71, by kernel_rfl, by kernel_rfl, fun _ _ h => h⟩ rfl (kn (t := 73) (j := 16) (by kernel_rfl)) (kn (t := 75) (j := 18) (by kernel_rfl)) (fun w' => by simp [go_sem]) ?_
          refine GW.pick (b := false) rfl trivial rfl (kn (t := 71) (j := 14) (by kernel_rfl)) (kn (t := 76) (j := 19) (by kernel_rfl)) (eqv_lasts _) ?_
          refine GW.done (by simp) (by kernel_rfl) (fun w' hg_ => ?_)
          intro v0 _ v1 _ v2 _ v3 _ v4 _ v5 _ v6 _ v7 _ v8 _ v9 _ v10 _ v11 _ v12 _ v13 _ v14 _ v15 _ v16 _ v17 _ v18 _ v19 _ v20 h20
          obtain rfl : v20 = (.bool false) := h20
          simp only [GFin, Act.put, List.setIfInBounds_toArray, List.set_cons_succ, List.set_cons_zero]
          have G8 := Lib.hid (Gr.trans G7.out hg_)
          have l8 := Lib.hid ((ql.out.below hg_).more hg_.size)
          have b8 := Lib.hid ((q10.out.below hg_).more hg_.size)
          clear qa qb qm ql q10 oP G7 hg_
          go_wp2_with fail
          go_at_call 7
          refine (awake_any _).mono ?_
          rintro e w9 ⟨rfl, g9⟩
          have G9 := Lib.hid (Gr.trans G8.out g9)
          have l9 := Lib.hid ((l8.out.below g9).more g9.size)
          have b9 := Lib.hid ((b8.out.below g9).more g9.size)
          clear G8 g9 l8 b8
          cases rt with
          | false =>
            go_wp2
            go_ret
            exact ⟨_, rfl, rfl, G9.out⟩
          | true =>
            obtain rfl : l = B := hB.out
            go_wp2_with fail
            go_at_call 11
            refine (from_any A10 c10 l _ b9.out (by omega)).mono ?_
            rintro e w10 ⟨A11, c11, rfl, o10, g10⟩
            have f10 := Lib.hid (OT.tr o10)
            have l10 := Lib.hid ((l9.out.below g10).more g10.size)
            have G10 := Lib.hid (Gr.trans G9.out g10)
            clear G9 g10 l9 b9 o10
            go_wp2_with fail
            go_at_call 10
            refine (refSame_any A11 c11 l A c l _ f10.out l10.out (by omega)).mono ?_
            rintro e w11 ⟨rfl, g11⟩
            rw [same_self]
            have G11 := Lib.hid (Gr.trans G10.out g11)
            clear G10 g11 f10 l10
            go_wp2
            go_ret
            exact ⟨_, rfl, rfl, G11.out⟩
    · have hq2' : fewB m = false := by simpa using hq2
      rw [hq] at hfe
      rw [hq2'] at hfe2
      clear hx' hx2' hq hq2
      go_enter Try.func4, Try.ntmps4
      go_wp2_with fail
      go_at_call 6
      refine (hfe.out _ hr'.out).mono ?_
      rintro e w1 ⟨rfl, g1⟩
      have s1 := Lib.hid ((hr2'.out.below g1).more g1.size)
      replace g1 := Lib.hid g1
      clear hfe
      go_wp2_with fail
      go_at_call 6
      refine (hfe2.out _ s1.out).mono ?_
      rintro e w2 ⟨rfl, g2⟩
      have G2 := Lib.hid (Gr.trans g1.out g2)
      clear hfe2 s1 g1 g2
      go_wp2_with fail
      go_at_call 7
      refine (awake_any _).mono ?_
      rintro e w3 ⟨rfl, g3⟩
      have G := Lib.hid (Gr.trans G2.out g3)
      clear G2 g3
      go_wp2
      go_ret
      exact ⟨_, rfl, rfl, G.out⟩
  · have hq' : fewB l = false := by simpa using hq
    rw [hq'] at hfe
    clear hx' hx2' hq hfe2
    go_enter Try.func4, Try.ntmps4
    go_wp2_with fail
    go_at_call 6
    refine (hfe.out _ hr'.out).mono ?_
    rintro e w1 ⟨rfl, g1⟩
    replace g1 := Lib.hid g1
    clear hfe
    go_wp2_with fail
    go_at_call 7
    refine (awake_any _).mono ?_
    rintro e w3 ⟨rfl, g3⟩
    have G := Lib.hid (Gr.trans g1.out g3)
    clear g1 g3
    go_wp2
    go_ret
    exact ⟨_, rfl, rfl, G.out⟩
end Tk
end Go.Proofs.Ythacnfoeaefeiaa
