/- The walks of Same: the document's, the program's. No condition but sizes. -/
import Derived.Test.YtcibngbgcnnjnaaSigPut
import Derived.Test.YtcibngbgcnnjnaaSigKit
set_option linter.unusedVariables false
set_option linter.unusedSimpArgs false
namespace Go.Proofs.Ytcibngbgcnnjnaa
open Go Go.RowKit W Bl
namespace Sg
theorem run_ldSign {T : TypeId} (hT : T = 33 ∨ T = 40) (w : World) (p ad : Addr) (t : Sign) (h0 : w.cell? p = some (.int .u32 (n32 t.1))) (h1 : w.cell? ⟨p.block, p.off + 1, none⟩ = some (.int .u64 (n64 t.2.1))) (h2 : w.cell? ⟨p.block, p.off + 2, none⟩ = some (.int .u64 (n64 t.2.2))) (hp : p = ad) :
    (Instr.loadAt T (.pointer (some ad))).run Try.prog w = .ok (sV t) w := by
  subst hp
  rcases hT with rfl | rfl <;> simp [Instr.loadAt, go_sem, h0, h1, h2]
theorem take_snoc_eq {l m : List Sign} {k : Nat} (h : k < l.length) (h' : k < m.length) (e : l.take k = m.take k) (e2 : l[k] = m[k]) : l.take (k + 1) = m.take (k + 1) := by
  rw [List.take_succ_eq_append_getElem h, List.take_succ_eq_append_getElem h', e, e2]
theorem ne_at {l m : List Sign} {k : Nat} (h : k < l.length) (h' : k < m.length) (e2 : l[k] ≠ m[k]) : decide (l = m) = false := by
  rw [decide_eq_false_iff_not]
  intro e
  subst e
  exact e2 rfl
theorem sig_eq (z : Int) (l : List Sign) (t : Int) (x : Sign) (m : List Sign) : decide ((⟨z, l, t, x⟩ : Sig) = ⟨z, m, t, x⟩) = decide (l = m) := by
  rw [decide_eq_decide]
  constructor
  · intro h; exact congrArg Sig.bs h
  · intro h; rw [h]
set_option maxRecDepth 100000 in
set_option maxHeartbeats 8000000 in
theorem refSame_any (s t : Sig) (A B : Option Addr) (c d : Nat) (w : World) (hl : SR w w.heap.size A s.bs) (hm : SR w w.heap.size B t.bs) (hk40 : s.bs.length ≤ 1000000) :
    Calls Try.prog 14 #[sigV s A c, sigV t B d] w fun e w' => e = .returned (.bool (decide (s = t))) ∧ Gr w w' := by
  obtain ⟨z, l, t1, x⟩ := s
  obtain ⟨z', m, t1', x'⟩ := t
  simp only at hl hm hk40
  obtain ⟨q, hq⟩ : ∃ q, decide ((⟨z, l, t1, x⟩ : Sig) = ⟨z', m, t1', x'⟩) = q := ⟨_, rfl⟩
  rw [hq]
  have b0 := Lib.hid ((Blk.new w 45 (sigC z (.slice A l.length c) t1 x)).alloc (.cells (sigC z' (.slice B m.length d) t1' x') 45))
  have b1 := Blk.new (w.alloc (.cells (sigC z (.slice A l.length c) t1 x) 45)) 45 (sigC z' (.slice B m.length d) t1' x')
  rw [World.size_alloc] at b1
  have b1 := Lib.hid b1
  have g0 := Lib.hid (((Gr.refl w).alloc (.cells (sigC z (.slice A l.length c) t1 x) 45)).alloc (.cells (sigC z' (.slice B m.length d) t1' x') 45))
  have hl' := Lib.hid hl
  have hm' := Lib.hid hm
  clear hl hm
  obtain ⟨xa, xb, xc⟩ := x
  obtain ⟨ya, yb, yc⟩ := x'
  show Calls Try.prog 14 #[.agg (sigC z (.slice A l.length c) t1 (xa, xb, xc)), .agg (sigC z' (.slice B m.length d) t1' (ya, yb, yc))] w _
  by_cases h0 : z = z'
  · obtain rfl := h0
    by_cases h1 : l.length = m.length
    · obtain ⟨n, hnl⟩ : ∃ n, l.length = n := ⟨_, rfl⟩
      have hnm : m.length = n := by omega
      clear h1
      rw [hnl] at b0 b1 g0 hk40 ⊢
      rw [hnm] at b0 b1 g0 ⊢
      have hnl := Lib.hid hnl
      have hnm := Lib.hid hnm
      by_cases h2 : t1 = t1'
      · obtain rfl := h2
        by_cases h3 : xa = ya
        · obtain rfl := h3
          by_cases h4 : xb = yb
          · obtain rfl := h4
            by_cases h5 : xc = yc
            · obtain rfl := h5
              rw [sig_eq] at hq
              go_enter Try.func14, Try.ntmps14
              go_wp2
              generalize (w.alloc (.cells (sigC z (.slice A n c) t1 (xa, xb, xc)) 45)).alloc (.cells (sigC z (.slice B n d) t1 (xa, xb, xc)) 45) = w0 at *
              go_loopw [5] (fun i wr => ∃ k : Nat, k ≤ n ∧ i = .int .i64 (k : Int) ∧ Hid (l.take k = m.take k) ∧ Gr w0 wr) (fun i _ => n - (intOf i).toNat)
              case atStart => exact ⟨0, by omega, rfl, Lib.hid rfl, Gr.refl w0⟩
              case round =>
                obtain ⟨k, hk, rfl, he, hg⟩ := hrel
                have bo := Lib.hid (blk_more b0.out hg)
                have bp := Lib.hid (blk_more b1.out hg)
                have y1 := bo.out.cell 1
                by_cases h0 : k < n
                · have h : k < l.length := by have := hnl.out; omega
                  obtain ⟨ad, hA, hlt, e0, e1, e2⟩ := (hl'.out.below (Gr.trans g0.out hg)).at_ h
                  obtain ⟨ad', hA', hlt', f0, f1, f2⟩ := (hm'.out.below (Gr.trans g0.out hg)).at_ (k := k) (by have := hnm.out; omega)
                  subst hA hA'
                  have hlt2 : (ad.add (k * 3)).block < wr.heap.size := by rw [block_of_add]; exact Nat.lt_of_lt_of_le hlt (Below.size (Gr.trans g0.out hg))
                  have hlt3 : (ad'.add (k * 3)).block < wr.heap.size := by rw [block_of_add]; exact Nat.lt_of_lt_of_le hlt' (Below.size (Gr.trans g0.out hg))
                  have hkm : k < m.length := by have := hnm.out; omega
                  obtain ⟨q1, hqe⟩ : ∃ q1, (l[k] != m[k]) = q1 := ⟨_, rfl⟩
                  replace hqe := Lib.hid hqe
                  go_wp2
                  refine region_grow (by kernel_rfl) (by kernel_rfl) ?_
                  refine GW.p1 (.pointer (some ⟨w.heap.size, 1, none⟩)) rfl trivial (kn0 (t := 2) (c := .pointer (some ⟨w.heap.size, 0, none⟩)) (by kernel_rfl) rfl) (fun ρ w' hρ hg => by simp [execOp, hρ, go_sem]) ?_
                  refine GW.p1 (.slice (some ad) n c) rfl trivial (kn (t := 41) (j := 0) (by kernel_rfl)) (fun ρ w' hρ hg => by simp [execOp, hρ, go_sem, (hg.cell (p := ⟨w.heap.size, 1, none⟩) bo.out.lt).trans (bo.out.cell 1)]) ?_
                  refine GW.mv rfl trivial (.inl rfl) (kn0 (t := 5) (c := .int .i64 (k : Int)) (by kernel_rfl) rfl) (eqv_lasts _) ?_
                  refine GW.p2 (.pointer (some (ad.add (k * 3)))) rfl trivial (kn (t := 42) (j := 1) (by kernel_rfl)) (kn (t := 43) (j := 2) (by kernel_rfl)) (fun ρ w' h1 h2 hg => by show ((Instr.indexAt 43 (ρ (.tmp 42)) (ρ (.tmp 43)) >>= fun v => pure (Next.value v)) : Sem Next).run Try.prog w' = _; rw [h1, h2, Sem.run_bind, run_idxR w' Try.underlying43 (size := 3) (by kernel_rfl) ad _ _ k h0]; simp) ?_
                  refine GW.p1 (.agg #[.int .u32 (n32 (l[k]).1), .int .u64 (n64 (l[k]).2.1), .int .u64 (n64 (l[k]).2.2)]) rfl trivial (kn (t := 44) (j := 3) (by kernel_rfl)) (fun ρ w' hρ hg => by simp [execOp, hρ, go_sem, (hg.cell (p := (ad.add (k * 3))) hlt2).trans e0, (hg.cell (p := ⟨(ad.add (k * 3)).block, (ad.add (k * 3)).off + 1, none⟩) hlt2).trans e1, (hg.cell (p := ⟨(ad.add (k * 3)).block, (ad.add (k * 3)).off + 2, none⟩) hlt2).trans e2]) ?_
                  refine GW.p1 (.pointer (some ⟨w.heap.size + 1, 1, none⟩)) rfl trivial (kn0 (t := 3) (c := .pointer (some ⟨w.heap.size + 1, 0, none⟩)) (by kernel_rfl) rfl) (fun ρ w' hρ hg => by simp [execOp, hρ, go_sem]) ?_
                  refine GW.p1 (.slice (some ad') n d) rfl trivial (kn (t := 46) (j := 5) (by kernel_rfl)) (fun ρ w' hρ hg => by simp [execOp, hρ, go_sem, (hg.cell (p := ⟨w.heap.size + 1, 1, none⟩) bp.out.lt).trans (bp.out.cell 1)]) ?_
                  refine GW.mv rfl trivial (.inl rfl) (kn0 (t := 5) (c := .int .i64 (k : Int)) (by kernel_rfl) rfl) (eqv_lasts _) ?_
                  refine GW.p2 (.pointer (some (ad'.add (k * 3)))) rfl trivial (kn (t := 47) (j := 6) (by kernel_rfl)) (kn (t := 48) (j := 7) (by kernel_rfl)) (fun ρ w' h1 h2 hg => by show ((Instr.indexAt 43 (ρ (.tmp 47)) (ρ (.tmp 48)) >>= fun v => pure (Next.value v)) : Sem Next).run Try.prog w' = _; rw [h1, h2, Sem.run_bind, run_idxR w' Try.underlying43 (size := 3) (by kernel_rfl) ad' _ _ k h0]; simp) ?_
                  refine GW.p1 (.agg #[.int .u32 (n32 (m[k]).1), .int .u64 (n64 (m[k]).2.1), .int .u64 (n64 (m[k]).2.2)]) rfl trivial (kn (t := 49) (j := 8) (by kernel_rfl)) (fun ρ w' hρ hg => by simp [execOp, hρ, go_sem, (hg.cell (p := (ad'.add (k * 3))) hlt3).trans f0, (hg.cell (p := ⟨(ad'.add (k * 3)).block, (ad'.add (k * 3)).off + 1, none⟩) hlt3).trans f1, (hg.cell (p := ⟨(ad'.add (k * 3)).block, (ad'.add (k * 3)).off + 2, none⟩) hlt3).trans f2]) ?_
                  refine GW.bin (.bool q1) rfl trivial rfl (kn (t := 45) (j := 4) (by kernel_rfl)) (kn (t := 50) (j := 9) (by kernel_rfl)) (fun w' => by rw [(run_eql_sign _ (.inr rfl) l[k] m[k] _ _ w').2, hqe.out]) ?_
                  refine GW.done (by simp) (by kernel_rfl) (fun w' hg_ => ?_)
                  intro v0 _ v1 _ v2 _ v3 _ v4 _ v5 _ v6 _ v7 _ v8 _ v9 _ v10 h10
                  obtain rfl : v10 = (.bool q1) := h10
                  simp only [GFin, Act.put, List.setIfInBounds_toArray, List.set_cons_succ, List.set_cons_zero]
                  clear e0 e1 e2 f0 f1 f2 y1
                  cases q1 with
                  | false =>
                    have hte := Lib.hid (take_snoc_eq h hkm he.out (by simpa using hqe.out))
                    go_wp2
                    go_roundw
                    case rel => exact ⟨k + 1, by omega, by go_num, hte, Gr.trans hg hg_⟩
                    case measure => simp [intOf]; omega
                  | true =>
                    have hfa := Lib.hid (ne_at h hkm (by simpa using hqe.out))
                    go_wp2
                    go_ret
                    exact ⟨ret_bool (hfa.out.symm.trans hq), Gr.trans g0.out (Gr.trans hg hg_)⟩
                · obtain rfl : k = n := by omega
                  have hte := he.out
                  rw [List.take_of_length_le (by have := hnl.out; omega), List.take_of_length_le (by have := hnm.out; omega)] at hte
                  replace hte := Lib.hid hte
                  go_wp2
                  go_ret
                  exact ⟨ret_bool ((decide_eq_true hte.out).symm.trans hq), Gr.trans g0.out hg⟩
            · obtain rfl : q = false := by
                rw [← hq, decide_eq_false_iff_not]
                intro e
                simp only [Sig.mk.injEq, Prod.mk.injEq] at e
                simp_all
              clear hq
              have e1 : (xc == yc) = false := by simp [h5]
              go_enter Try.func14, Try.ntmps14
              go_wp2
              go_ret
              exact ⟨rfl, g0.out⟩
          · obtain rfl : q = false := by
              rw [← hq, decide_eq_false_iff_not]
              intro e
              simp only [Sig.mk.injEq, Prod.mk.injEq] at e
              simp_all
            clear hq
            have e1 : (xb == yb) = false := by simp [h4]
            go_enter Try.func14, Try.ntmps14
            go_wp2
            go_ret
            exact ⟨rfl, g0.out⟩
        · obtain rfl : q = false := by
            rw [← hq, decide_eq_false_iff_not]
            intro e
            simp only [Sig.mk.injEq, Prod.mk.injEq] at e
            simp_all
          clear hq
          have e1 : (xa == ya) = false := by simp [h3]
          go_enter Try.func14, Try.ntmps14
          go_wp2
          go_ret
          exact ⟨rfl, g0.out⟩
      · obtain rfl : q = false := by
          rw [← hq, decide_eq_false_iff_not]
          intro e
          simp only [Sig.mk.injEq, Prod.mk.injEq] at e
          simp_all
        clear hq
        have e1 : (t1 == t1') = false := by simp [h2]
        go_enter Try.func14, Try.ntmps14
        go_wp2
        go_ret
        exact ⟨rfl, g0.out⟩
    · obtain rfl : q = false := by
        rw [← hq, decide_eq_false_iff_not]
        intro e
        simp only [Sig.mk.injEq, Prod.mk.injEq] at e
        simp_all
      clear hq
      have e1 : ((l.length : Int) == (m.length : Int)) = false := by simp; omega
      go_enter Try.func14, Try.ntmps14
      go_wp2
      go_ret
      exact ⟨rfl, g0.out⟩
  · obtain rfl : q = false := by
      rw [← hq, decide_eq_false_iff_not]
      intro e
      simp only [Sig.mk.injEq, Prod.mk.injEq] at e
      simp_all
    clear hq
    have e1 : (z == z') = false := by simp [h0]
    go_enter Try.func14, Try.ntmps14
    go_wp2
    go_ret
    exact ⟨rfl, g0.out⟩
set_option maxRecDepth 100000 in
set_option maxHeartbeats 4000000 in
theorem equal_any (A : Option Addr) (c : Nat) (l : List Sign) (B : Option Addr) (d : Nat) (m : List Sign) (w : World) (hl : SR w w.heap.size A l) (hm : SR w w.heap.size B m) (hk40 : l.length ≤ 1000000) :
    Calls Try.prog 47 #[.slice A l.length c, .slice B m.length d] w fun e w' => e = .returned (.bool (decide (l = m))) ∧ Gr w w' := by
  have hl' := Lib.hid hl
  have hm' := Lib.hid hm
  clear hl hm
  by_cases hn : l.length = m.length
  · go_enter Try.func47, Try.ntmps47
    go_wp2
    go_loopw [5, 13] (fun _ i wr => ∃ k : Nat, k ≤ l.length ∧ i = .int .i64 (k : Int) ∧ Hid (l.take k = m.take k) ∧ Gr w wr) (fun _ i _ => l.length - (intOf i).toNat)
    case atStart => exact ⟨0, by omega, rfl, Lib.hid rfl, Gr.refl w⟩
    case round =>
      obtain ⟨k, hk, rfl, he, hg⟩ := hrel
      by_cases h : k < l.length
      · obtain ⟨ad, hA, hlt, e0, e1, e2⟩ := (hl'.out.below hg).at_ h
        obtain ⟨ad', hA', hlt', f0, f1, f2⟩ := (hm'.out.below hg).at_ (k := k) (by omega)
        subst hA hA'
        have hlt2 : (ad.add (k * 3)).block < wr.heap.size := by rw [block_of_add]; exact Nat.lt_of_lt_of_le hlt (Below.size hg)
        have hlt3 : (ad'.add (k * 3)).block < wr.heap.size := by rw [block_of_add]; exact Nat.lt_of_lt_of_le hlt' (Below.size hg)
        have hkm : k < m.length := by omega
        obtain ⟨q, hqe⟩ : ∃ q, (l[k] != m[k]) = q := ⟨_, rfl⟩
        replace hqe := Lib.hid hqe
        go_wp2
        refine region_grow (by kernel_rfl) (by kernel_rfl) ?_
        refine GW.mv rfl trivial (.inl rfl) (kn0 (t := 0) (c := .slice (some ad) l.length c) (by kernel_rfl) rfl) (eqv_lasts _) ?_
        refine GW.mv rfl trivial (.inl rfl) (kn0 (t := 5) (c := .int .i64 (k : Int)) (by kernel_rfl) rfl) (eqv_lasts _) ?_
        refine GW.p2 (.pointer (some (ad.add (k * 3)))) rfl trivial (kn (t := 16) (j := 0) (by kernel_rfl)) (kn (t := 17) (j := 1) (by kernel_rfl)) (fun ρ w' h1 h2 hg => by show ((Instr.indexAt 27 (ρ (.tmp 16)) (ρ (.tmp 17)) >>= fun v => pure (Next.value v)) : Sem Next).run Try.prog w' = _; rw [h1, h2, Sem.run_bind, run_idxR w' Try.underlying27 (size := 3) (by kernel_rfl) ad _ _ k h]; simp) ?_
        refine GW.p1 (.agg #[.int .u32 (n32 (l[k]).1), .int .u64 (n64 (l[k]).2.1), .int .u64 (n64 (l[k]).2.2)]) rfl trivial (kn (t := 18) (j := 2) (by kernel_rfl)) (fun ρ w' hρ hg => by simp [execOp, hρ, go_sem, (hg.cell (p := (ad.add (k * 3))) hlt2).trans e0, (hg.cell (p := ⟨(ad.add (k * 3)).block, (ad.add (k * 3)).off + 1, none⟩) hlt2).trans e1, (hg.cell (p := ⟨(ad.add (k * 3)).block, (ad.add (k * 3)).off + 2, none⟩) hlt2).trans e2]) ?_
        refine GW.mv rfl trivial (.inl rfl) (kn0 (t := 1) (c := .slice (some ad') m.length d) (by kernel_rfl) rfl) (eqv_lasts _) ?_
        refine GW.mv rfl trivial (.inl rfl) (kn0 (t := 5) (c := .int .i64 (k : Int)) (by kernel_rfl) rfl) (eqv_lasts _) ?_
        refine GW.p2 (.pointer (some (ad'.add (k * 3)))) rfl trivial (kn (t := 20) (j := 4) (by kernel_rfl)) (kn (t := 21) (j := 5) (by kernel_rfl)) (fun ρ w' h1 h2 hg => by show ((Instr.indexAt 27 (ρ (.tmp 20)) (ρ (.tmp 21)) >>= fun v => pure (Next.value v)) : Sem Next).run Try.prog w' = _; rw [h1, h2, Sem.run_bind, run_idxR w' Try.underlying27 (size := 3) (by kernel_rfl) ad' _ _ k hkm]; simp) ?_
        refine GW.p1 (.agg #[.int .u32 (n32 (m[k]).1), .int .u64 (n64 (m[k]).2.1), .int .u64 (n64 (m[k]).2.2)]) rfl trivial (kn (t := 22) (j := 6) (by kernel_rfl)) (fun ρ w' hρ hg => by simp [execOp, hρ, go_sem, (hg.cell (p := (ad'.add (k * 3))) hlt3).trans f0, (hg.cell (p := ⟨(ad'.add (k * 3)).block, (ad'.add (k * 3)).off + 1, none⟩) hlt3).trans f1, (hg.cell (p := ⟨(ad'.add (k * 3)).block, (ad'.add (k * 3)).off + 2, none⟩) hlt3).trans f2]) ?_
        refine GW.bin (.bool q) rfl trivial rfl (kn (t := 19) (j := 3) (by kernel_rfl)) (kn (t := 23) (j := 7) (by kernel_rfl)) (fun w' => by rw [(run_eql_sign _ (.inl rfl) l[k] m[k] _ _ w').2, hqe.out]) ?_
        refine GW.done (by simp) (by kernel_rfl) (fun w' hg_ => ?_)
        intro v0 _ v1 _ v2 _ v3 _ v4 _ v5 _ v6 _ v7 _ v8 h8
        obtain rfl : v8 = (.bool q) := h8
        simp only [GFin, Act.put, List.setIfInBounds_toArray, List.set_cons_succ, List.set_cons_zero]
        clear e0 e1 e2 f0 f1 f2
        cases q with
        | false =>
          have hte := Lib.hid (take_snoc_eq h hkm he.out (by simpa using hqe.out))
          go_wp2
          go_roundw
          case rel => exact ⟨k + 1, by omega, by go_num, hte, Gr.trans hg hg_⟩
          case measure => simp [intOf]; omega
        | true =>
          have hfa := Lib.hid (ne_at h hkm (by simpa using hqe.out))
          go_wp2
          go_ret
          exact ⟨ret_bool hfa.out.symm, Gr.trans hg hg_⟩
      · obtain rfl : k = l.length := by omega
        have hte := he.out
        rw [List.take_length, List.take_of_length_le (by omega)] at hte
        replace hte := Lib.hid hte
        go_wp2
        go_ret
        exact ⟨ret_bool (decide_eq_true hte.out).symm, hg⟩
  · have hfa : Hid (decide (l = m) = false) := Lib.hid (by rw [decide_eq_false_iff_not]; intro e; exact hn (by rw [e]))
    have hn' : ¬ (l.length : Int) = (m.length : Int) := by omega
    go_enter Try.func47, Try.ntmps47
    go_wp2
    go_ret
    exact ⟨ret_bool hfa.out.symm, Gr.refl w⟩
end Sg
end Go.Proofs.Ytcibngbgcnnjnaa

