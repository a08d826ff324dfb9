/- The walk of PatchApplies. No condition but sizes. -/
import Derived.Test.YtgnogoghfendpaaPatAwake
import Derived.Test.YtgnogoghfendpaaTokLawJ
set_option linter.unusedVariables false
set_option linter.unusedSimpArgs false
namespace Go.Proofs.Ytgnogoghfendpaa
open Go Go.RowKit W Bl Tk
namespace Pt
theorem few_fits {l : List Tok} (h : fewB l = true) (hb : ∀ t ∈ l, Bnd t) : l.length ≤ 20 ∧ Fits l := by
  unfold fewB shortB at h
  rw [Bool.and_eq_true, decide_eq_true_eq, List.all_eq_true] at h
  obtain ⟨h1, h2⟩ := h
  have h2' : ∀ t ∈ l, t.d.length ≤ 200 := fun t ht => by simpa using h2 t ht
  refine ⟨h1, ⟨by omega, fun t ht => ?_⟩⟩
  obtain ⟨b1, b2, b3, b4, _⟩ := hb t ht
  exact ⟨b1, b2, b3, b4, by have := h2' t ht; omega⟩
def nd (n : Nat) (size : Int) (l : List Tok) (k : Nat) : Bool := !(l.take k).any (short n size)
theorem nd_succ (n : Nat) (size : Int) (l : List Tok) (k : Nat) (h : k < l.length) : nd n size l (k + 1) = (nd n size l k && !short n size l[k]) := by
  unfold nd
  rw [List.take_succ_eq_append_getElem h, List.any_append]
  simp
theorem nd_all (n : Nat) (size : Int) (l : List Tok) : nd n size l l.length = !l.any (short n size) := by unfold nd; rw [List.take_length]
theorem short_bne (old : List UInt8) (size : Int) (t : Tok) (b : List UInt8) (cc : Nat) (h : pstep old size t = (b, cc)) : (!short old.length size t) = ((cc : Int) != 6) := by
  have := short_code old size t
  rw [h] at this
  cases hs : short old.length size t
  · rw [hs] at this
    have hne : ¬ cc = 6 := fun e => by have := this.1 e; cases this
    simp
    omega
  · obtain rfl : cc = 6 := this.2 hs
    rfl
set_option maxRecDepth 100000 in
set_option maxHeartbeats 8000000 in
theorem patchApplies_walk (A : Option Addr) (c : Nat) (old : List UInt8) (size : Int) (B : Option Addr) (cB : Nat) (l : List Tok) (w : World) (hc : old.length ≤ c) (hm : c ≤ maxLen) (hr : RB w w.heap.size A old)
    (hcB : l.length ≤ cB) (hmB : cB ≤ maxLen) (hT : TR w w.heap.size B l) (hx : ∀ t ∈ l, Bnd t) :
    Calls Try.prog 3 #[.slice A old.length c, .int .i64 size, .slice B l.length cB] w (Ret (eqv (.bool true)) w) := by
  have hfe := Lib.hid (fun w (h : TR w w.heap.size B l) => few_any B cB l w h (fun t ht => by have := (hx t ht).2.2.2.2; unfold maxLen at this; omega) (by unfold maxLen at hmB; omega))
  have hr' := Lib.hid hr
  have hT' := Lib.hid hT
  by_cases h300 : old.length ≤ 300
  · have h300' : ¬ (300 : Int) < (old.length : Int) := by omega
    by_cases hq : fewB l = true
    · obtain ⟨h20, hF⟩ := few_fits hq hx
      rw [hq] at hfe
      have hF' := Lib.hid hF
      have hs1 : old.length ≤ 1000000 := by omega
      have hst := Lib.hid (fun i (h : i < l.length) w (hr : RB w w.heap.size A old) => step_any A c old size l[i] w hs1 hc hr (hF.2 _ (List.getElem_mem h)))
      have hsr := Lib.hid (fun i (h : i < l.length) w => refStep_any old size l[i] w hs1 (hF.2 _ (List.getElem_mem h)))
      have hpl := Lib.hid (fun t => pstep_len old size t)
      have hnd := Lib.hid (fun k (h : k < l.length) => nd_succ old.length size l k h)
      have hsh := Lib.hid (fun k (h : k < l.length) b cc => short_bne old size l[k] b cc)
      clear hx hr hF hT hmB
      go_enter Try.func3, Try.ntmps3
      go_wp2_with fail
      go_at_call 6
      refine (hfe.out _ hT'.out).mono ?_
      rintro e w1 ⟨rfl, g1⟩
      have t1 := Lib.hid ((hT'.out.below g1).more g1.size)
      replace g1 := Lib.hid g1
      clear hfe
      go_wp2_with fail
      go_at_call 8
      refine (to_any B cB l _ t1.out (by omega)).mono ?_
      rintro e w2 ⟨A2, c2, rfl, o2, g2⟩
      have q2 := Lib.hid (OT.tr o2)
      have G2 := Lib.hid (Gr.trans g1.out g2)
      have r2 := Lib.hid ((hr'.out.below G2.out).more (Below.size G2.out))
      have p2 := Lib.hid ((t1.out.below g2).more g2.size)
      clear t1 g1 g2 o2
      go_wp2_with fail
      go_at_call 9
      refine (apply_any A A2 c c2 old size l _ hs1 hc r2.out q2.out hF'.out (by omega)).mono ?_
      obtain ⟨⟨L, code⟩, hrr⟩ : ∃ r, papp old size l [] = r := ⟨_, rfl⟩
      rw [hrr]
      replace hrr := Lib.hid hrr
      rintro e w3 ⟨v, rfl, ⟨A3, c3, rfl, hc3, hm3, r3⟩, g3⟩
      simp only at hc3
      have R3 := Lib.hid r3
      have G3 := Lib.hid (Gr.trans G2.out g3)
      have r4 := Lib.hid ((r2.out.below g3).more (Below.size g3))
      have q3 := Lib.hid ((q2.out.below g3).more g3.size)
      have p3 := Lib.hid ((p2.out.below g3).more g3.size)
      clear r2 q2 p2 g3 G2 r3
      go_wp2_with (first
        | (refine wpList_bytes_string rfl (.tmp 37) 22 9 5 rfl Try.underlying22 Bl.byteType.1 Try.underlying9 _ _ _ _ old rfl rfl r4.out ?_))
      go_at_call 10
      refine (refApply_any B cB old size l _ hs1 p3.out hF'.out (by omega)).mono ?_
      rw [hrr.out]
      rintro e w4 ⟨rfl, g4⟩
      have R4 := Lib.hid ((R3.out.below g4).more (Below.size g4))
      have G4 := Lib.hid (Gr.trans G3.out g4)
      have r5 := Lib.hid ((r4.out.below g4).more (Below.size g4))
      have q4 := Lib.hid ((q3.out.below g4).more g4.size)
      have p4 := Lib.hid ((p3.out.below g4).more g4.size)
      clear r4 q3 p3 g4 G3 R3
      go_wp2
      go_loopw [12, 13] (fun d i wr => ∃ k : Nat, k ≤ l.length ∧ i = .int .i64 (k : Int) ∧ d = .bool (nd old.length size l k) ∧ Gr w4 wr) (fun _ i _ => l.length - (intOf i).toNat)
      case atStart => exact ⟨0, by omega, rfl, rfl, Gr.refl w4⟩
      case round =>
        obtain ⟨k, hk, rfl, rfl, hg⟩ := hrel
        by_cases h : k < l.length
        · obtain ⟨ad2, hA2, hlt2, c0, c1, c2'⟩ := (q4.out.below hg).at_ h
          obtain ⟨adB, hB, hltB, d0, d1, d2⟩ := (p4.out.below hg).at_ h
          subst hA2
          subst hB
          have hca := Lib.hid (hst.out k h wr ((r5.out.below hg).more hg.size))
          have hcr := Lib.hid (hsr.out k h)
          have hb := hpl.out l[k]
          have hn1 := Lib.hid (hnd.out k h)
          have hsh1 := hsh.out k h
          have i1 : (0 : Int) ≤ (k : Int) := by omega
          have i2 : (k : Int) < (l.length : Int) := by omega
          have rw5 := Lib.hid ((r5.out.below hg).more hg.size)
          have hg' := Lib.hid hg
          have hltB' : adB.block < wr.heap.size := Nat.lt_of_lt_of_le hltB hg.size
          have D := Lib.hid (show wr.cell? (adB.add (k * 3)) = some (.int .i64 (l[k]).f) ∧ wr.cell? ⟨(adB.add (k * 3)).block, (adB.add (k * 3)).off + 1, none⟩ = some (.int .i64 (l[k]).m) ∧ wr.cell? ⟨(adB.add (k * 3)).block, (adB.add (k * 3)).off + 2, none⟩ = some (str (l[k]).d) from ⟨d0, d1, d2⟩)
          clear hst hsr hpl hnd hsh hg d0 d1 d2
          obtain ⟨nk', hnk⟩ : ∃ q, nd old.length size l (k + 1) = q := ⟨_, rfl⟩
          rw [hnk] at hn1
          generalize nd old.length size l k = nk at *
          generalize l[k] = t at *
          obtain ⟨⟨b, cc⟩, hp⟩ : ∃ p, pstep old size t = p := ⟨_, rfl⟩
          rw [hp] at hca hcr hb
          have hsh2 := hsh1 b cc hp
          rw [hsh2] at hn1
          simp only at hb
          obtain ⟨f, m, d⟩ := t
          simp only at c0 c1 c2'
          have hnkH := Lib.hid hnk
          clear hp hsh1 hsh2 hnk
          go_wp2_with fail
          go_at_call 11
          refine (hca.out).mono ?_
          rintro e w5 ⟨v, rfl, ⟨A5, c5, rfl, hc5, hm5, R5⟩, g5⟩
          simp only at hc5
          have G5 := Lib.hid (Gr.trans hg'.out g5)
          have S5 := Lib.hid R5
          have r6 := (rw5.out.below g5).more (Below.size g5)
          have z0 := (g5.cell (by rw [block_of_add]; exact hltB')).trans D.out.1
          have z1 := (g5.cell (p := ⟨(adB.add (k * 3)).block, (adB.add (k * 3)).off + 1, none⟩) (by rw [block_of_add]; exact hltB')).trans D.out.2.1
          have z2 := (g5.cell (p := ⟨(adB.add (k * 3)).block, (adB.add (k * 3)).off + 2, none⟩) (by rw [block_of_add]; exact hltB')).trans D.out.2.2
          have hlB5 : (adB.add (k * 3)).block < w5.heap.size := by rw [block_of_add]; exact Nat.lt_of_lt_of_le hltB' (Below.size g5)
          clear hca hg' g5 c0 c1 c2' R5 D rw5
          go_wp2
          refine region_grow (by kernel_rfl) (by kernel_rfl) ?_
          refine GW.mv rfl trivial (.inl rfl) (kn0' (t := 0) (c := .slice A old.length c) (by kernel_rfl) rfl (isB_lasts _) (⟨_, _, rfl, hc, hm, r6⟩)) (isB_lasts _) ?_
          refine GW.bs (old) rfl trivial rfl Try.underlying22 byteType.1 Try.underlying9 (kn (t := 61) (j := 0) (by kernel_rfl)) ?_
          refine GW.mv rfl trivial (.inl rfl) (kn0 (t := 1) (c := .int .i64 size) (by kernel_rfl) rfl) (eqv_lasts _) ?_
          refine GW.mv rfl trivial (.inl rfl) (kn0 (t := 2) (c := .slice (some adB) l.length cB) (by kernel_rfl) rfl) (eqv_lasts _) ?_
          refine GW.mv rfl trivial (.inl rfl) (kn0 (t := 13) (c := .int .i64 (k : Int)) (by kernel_rfl) rfl) (eqv_lasts _) ?_
          refine GW.p2 (.pointer (some (adB.add (k * 3)))) rfl trivial (kn (t := 64) (j := 3) (by kernel_rfl)) (kn (t := 65) (j := 4) (by kernel_rfl)) (fun ρ w' h1 h2 hg => by show ((Instr.indexAt 23 (ρ (.tmp 64)) (ρ (.tmp 65)) >>= fun v => pure (Next.value v)) : Sem Next).run Try.prog w' = _; rw [h1, h2, Sem.run_bind, run_idxR w' Try.underlying23 (size := 3) (by kernel_rfl) adB l.length cB k h]; rfl) ?_
          refine GW.p1 (.agg #[.int .i64 f, .int .i64 m, .string ⟨d.toArray⟩]) rfl trivial (kn (t := 66) (j := 5) (by kernel_rfl)) (fun ρ w' hρ hg => by have y0 := (hg.cell (p := adB.add (k * 3)) hlB5).trans z0; have y1 := (hg.cell (p := ⟨(adB.add (k * 3)).block, (adB.add (k * 3)).off + 1, none⟩) hlB5).trans z1; have y2 := (hg.cell (p := ⟨(adB.add (k * 3)).block, (adB.add (k * 3)).off + 2, none⟩) hlB5).trans z2; simp [execOp, hρ, go_sem, y0, y1, y2]) ?_
          refine GW.call3 (eqv (.tuple #[str b, .int .i64 (cc : Int)])) rfl trivial rfl Try.func12 (by kernel_rfl) (by kernel_rfl) (eqv_lasts _) (kn (t := 62) (j := 1) (by kernel_rfl)) (kn (t := 63) (j := 2) (by kernel_rfl)) (kn (t := 67) (j := 6) (by kernel_rfl)) (fun v u s w' hg hv hu hs' => ?_) ?_
          · obtain rfl : v = _ := hv
            obtain rfl : u = _ := hu
            obtain rfl : s = _ := hs'
            refine (hcr.out w').mono ?_
            rintro e w9 ⟨rfl, g9⟩
            exact ⟨_, rfl, rfl, g9⟩
          refine GW.mv rfl trivial (.inl rfl) (kn (t := 68) (j := 7) (by kernel_rfl)) (eqv_lasts _) ?_
          refine GW.p1 (str b) rfl trivial (kn (t := 60) (j := 8) (by kernel_rfl)) (fun ρ w' hρ hg => by simp [execOp, hρ, go_sem]) ?_
          refine GW.p1 (.int .i64 (cc : Int)) rfl trivial (kn (t := 60) (j := 8) (by kernel_rfl)) (fun ρ w' hρ hg => by simp [execOp, hρ, go_sem]) ?_
          refine GW.mv rfl trivial (.inr rfl) (kn (t := 69) (j := 9) (by kernel_rfl)) (eqv_lasts _) ?_
          refine GW.mv rfl trivial (.inr rfl) (kn (t := 70) (j := 10) (by kernel_rfl)) (eqv_lasts _) ?_
          refine GW.done (by simp) (by kernel_rfl) (fun w' hg_ => ?_)
          intro v0 _ v1 _ v2 _ v3 _ v4 _ v5 _ v6 _ v7 _ v8 _ v9 h9 v10 h10 v11 h11 v12 h12
          obtain rfl : v9 = (str b) := h9
          obtain rfl : v10 = (.int .i64 (cc : Int)) := h10
          obtain rfl : v11 = (str b) := h11
          obtain rfl : v12 = (.int .i64 (cc : Int)) := h12
          simp only [GFin, Act.put, List.setIfInBounds_toArray, List.set_cons_succ, List.set_cons_zero]
          have G6 := Lib.hid (Gr.trans G5.out hg_)
          have S6 := Lib.hid ((S5.out.below hg_).more (Below.size hg_))
          clear hg_ G5 S5 r6 z0 z1 z2 hcr
          cases nk with
          | true =>
            obtain rfl : nk' = ((cc : Int) != 6) := hn1.out
            go_wp2_with (first
              | (refine wpList_bytes_string rfl (.tmp 71) 22 9 5 rfl Try.underlying22 Bl.byteType.1 Try.underlying9 _ _ _ _ b rfl rfl S6.out ?_))
            go_roundw
            case rel => exact ⟨k + 1, by omega, by go_num, by rw [hnkH.out], G6.out⟩
            case measure => simp [intOf]; omega
          | false =>
            obtain rfl : nk' = false := hn1.out
            go_wp2_with (first
              | (refine wpList_bytes_string rfl (.tmp 71) 22 9 5 rfl Try.underlying22 Bl.byteType.1 Try.underlying9 _ _ _ _ b rfl rfl S6.out ?_))
            go_roundw
            case rel => exact ⟨k + 1, by omega, by go_num, by rw [hnkH.out], G6.out⟩
            case measure => simp [intOf]; omega
        · obtain rfl : k = l.length := by omega
          have hna := Lib.hid (nd_all old.length size l)
          have G5 := Lib.hid (Gr.trans G4.out hg)
          have q5 := Lib.hid ((q4.out.below hg).more hg.size)
          have R5 := Lib.hid ((R4.out.below hg).more hg.size)
          clear hst hsr hpl hnd hsh hg r5 q4 p4 R4 G4
          generalize nd old.length size l l.length = nk at *
          go_wp2_with fail
          go_at_call 7
          refine (awake_any _).mono ?_
          rintro e w5 ⟨rfl, g5⟩
          have G6 := Lib.hid (Gr.trans G5.out g5)
          have q6 := Lib.hid ((q5.out.below g5).more g5.size)
          have R6 := Lib.hid ((R5.out.below g5).more (Below.size g5))
          clear q5 R5 G5 g5
          go_wp2_with (first
            | (refine wpList_bytes_string rfl (.tmp 87) 22 9 5 rfl Try.underlying22 Bl.byteType.1 Try.underlying9 _ _ _ _ L rfl rfl R6.out ?_))
          go_at_call 13
          refine (needs_any A2 old.length c2 size l _ hs1 q6.out hF'.out (by omega)).mono ?_
          rw [← hna.out]
          rintro e w7 ⟨rfl, g7⟩
          have G7 := Lib.hid (Gr.trans G6.out g7)
          clear g7 q6 R6 G6
          go_wp2
          go_ret
          exact ⟨_, rfl, rfl, G7.out⟩
    · have hq' : fewB l = false := by simpa using hq
      rw [hq'] at hfe
      clear hx hr hm hq hT hmB
      go_enter Try.func3, Try.ntmps3
      go_wp2_with fail
      go_at_call 6
      refine (hfe.out _ hT'.out).mono ?_
      rintro e w1 ⟨rfl, g1⟩
      replace g1 := Lib.hid g1
      clear hfe
      go_wp2_with fail
      go_at_call 7
      refine (awake_any _).mono ?_
      rintro e w2 ⟨rfl, g2⟩
      have G := Lib.hid (Gr.trans g1.out g2)
      clear g1 g2
      go_wp2
      go_ret
      exact ⟨_, rfl, rfl, G.out⟩
  · have h300' : (300 : Int) < (old.length : Int) := by omega
    clear hx hr hT hfe
    go_enter Try.func3, Try.ntmps3
    go_wp2_with fail
    go_at_call 7
    refine (awake_any _).mono ?_
    rintro e w2 ⟨rfl, g2⟩
    have G := Lib.hid g2
    clear g2
    go_wp2
    go_ret
    exact ⟨_, rfl, rfl, G.out⟩
end Pt
end Go.Proofs.Ytgnogoghfendpaa

