/- The walks of Same. No condition but sizes. -/
import Derived.Test.YthacnfoeaefeiaaTokCopy
set_option linter.unusedVariables false
set_option linter.unusedSimpArgs false
namespace Go.Proofs.Ythacnfoeaefeiaa
open Go Go.RowKit W
namespace Tk
theorem run_neq_tok (T : TypeId) (hT : T = 39 ∨ T = 37) (s t : Tok) (x y : Operand) (w : World) : (do eqGuard .neq T x y (tokV s) (tokV t); binOp .neq T (tokV s) (tokV t) : Sem Value).run Try.prog w = .ok (.bool (decide (s ≠ t))) w := by
  obtain ⟨f, m, d⟩ := s
  obtain ⟨f', m', d'⟩ := t
  rcases hT with rfl | rfl <;> by_cases h1 : f = f' <;> by_cases h2 : m = m' <;> by_cases h3 : d = d' <;> simp [go_sem, tokV, h1, h2, h3]
theorem run_ldTok {T : TypeId} (hT : T = 39 ∨ T = 37) (w : World) (p : Addr) (ad : Addr) (t : Tok) (h0 : w.cell? p = some (.int .i64 t.f)) (h1 : w.cell? ⟨p.block, p.off + 1, none⟩ = some (.int .i64 t.m)) (h2 : w.cell? ⟨p.block, p.off + 2, none⟩ = some (.string ⟨t.d.toArray⟩)) (hp : p = ad) :
    (Instr.loadAt T (.pointer (some ad))).run Try.prog w = .ok (tokV t) w := by
  subst hp
  rcases hT with rfl | rfl <;> simp [Instr.loadAt, go_sem, h0, h1, h2]
theorem take_snoc_eq {l m : List Tok} {k : Nat} (h : k < l.length) (h' : k < m.length) (e : l.take k = m.take k) (e2 : l[k] = m[k]) : l.take (k + 1) = m.take (k + 1) := by
  rw [List.take_succ_eq_append_getElem h, List.take_succ_eq_append_getElem h', e, e2]
theorem ne_at {l m : List Tok} {k : Nat} (h : k < l.length) (h' : k < m.length) (e2 : l[k] ≠ m[k]) : decide (l = m) = false := by
  rw [decide_eq_false_iff_not]
  intro e
  subst e
  exact e2 rfl
set_option maxHeartbeats 4000000 in
theorem refSame_any (A : Option Addr) (c : Nat) (l : List Tok) (A' : Option Addr) (c' : Nat) (m : List Tok) (w : World) (hl : TR w w.heap.size A l) (hm : TR w w.heap.size A' m) (hk40 : l.length ≤ 1000000) :
    Calls Try.prog 10 #[.slice A l.length c, .slice A' m.length c'] w fun e w' => e = .returned (.bool (decide (l = m))) ∧ Gr w w' := by
  have hl' := Lib.hid hl
  have hm' := Lib.hid hm
  clear hl hm
  by_cases hn : l.length = m.length
  · go_enter Try.func10, Try.ntmps10
    go_wp2
    go_loopw [5] (fun i wr => ∃ k : Nat, k ≤ l.length ∧ i = .int .i64 (k : Int) ∧ Hid (l.take k = m.take k) ∧ Gr w wr) (fun i _ => l.length - (intOf i).toNat)
    case atStart => exact ⟨0, by omega, rfl, Lib.hid rfl, Gr.refl w⟩
    case round =>
      obtain ⟨k, hk, rfl, he, hg⟩ := hrel
      by_cases h : k < l.length
      · obtain ⟨ad, hA, hlt, e0, e1, e2⟩ := (hl'.out.below hg).at_ h
        obtain ⟨ad', hA', hlt', f0, f1, f2⟩ := (hm'.out.below hg).at_ (k := k) (by omega)
        subst hA hA'
        have hlt2 : (ad.add (k * 3)).block < wr.heap.size := by rw [block_of_add]; exact Nat.lt_of_lt_of_le hlt (Below.size hg)
        have hlt3 : (ad'.add (k * 3)).block < wr.heap.size := by rw [block_of_add]; exact Nat.lt_of_lt_of_le hlt' (Below.size hg)
        have hkm : k < m.length := by omega
        obtain ⟨q, hqe⟩ : ∃ q, decide (l[k] ≠ m[k]) = q := ⟨_, rfl⟩
        replace hqe := Lib.hid hqe
        go_wp2
        refine region_grow (by kernel_rfl) (by kernel_rfl) ?_
        refine GW.mv rfl trivial (.inl rfl) (kn0 (t := 0) (c := .slice (some ad) l.length c) (by kernel_rfl) rfl) (eqv_lasts _) ?_
        refine GW.mv rfl trivial (.inl rfl) (kn0 (t := 5) (c := .int .i64 (k : Int)) (by kernel_rfl) rfl) (eqv_lasts _) ?_
        refine GW.p2 (.pointer (some (ad.add (k * 3)))) rfl trivial (kn (t := 17) (j := 0) (by kernel_rfl)) (kn (t := 18) (j := 1) (by kernel_rfl)) (fun ρ w' h1 h2 hg => by show ((Instr.indexAt 22 (ρ (.tmp 17)) (ρ (.tmp 18)) >>= fun v => pure (Next.value v)) : Sem Next).run Try.prog w' = _; rw [h1, h2, Sem.run_bind, run_idxR w' Try.underlying22 (size := 3) (by kernel_rfl) ad l.length c k (by omega)]; rfl) ?_
        refine GW.p1 (tokV l[k]) rfl trivial (kn (t := 19) (j := 2) (by kernel_rfl)) (fun ρ w' hρ hg => by show ((Instr.loadAt 37 (ρ (.tmp 19)) >>= fun v => pure (Next.value v)) : Sem Next).run Try.prog w' = _; rw [hρ, Sem.run_bind, run_ldTok (.inr rfl) w' _ _ l[k] ((hg.cell (p := ad.add (k * 3)) hlt2).trans e0) ((hg.cell (p := ⟨(ad.add (k * 3)).block, (ad.add (k * 3)).off + 1, none⟩) hlt2).trans e1) ((hg.cell (p := ⟨(ad.add (k * 3)).block, (ad.add (k * 3)).off + 2, none⟩) hlt2).trans e2) rfl]; rfl) ?_
        refine GW.mv rfl trivial (.inl rfl) (kn0 (t := 1) (c := .slice (some ad') m.length c') (by kernel_rfl) rfl) (eqv_lasts _) ?_
        refine GW.mv rfl trivial (.inl rfl) (kn0 (t := 5) (c := .int .i64 (k : Int)) (by kernel_rfl) rfl) (eqv_lasts _) ?_
        refine GW.p2 (.pointer (some (ad'.add (k * 3)))) rfl trivial (kn (t := 21) (j := 4) (by kernel_rfl)) (kn (t := 22) (j := 5) (by kernel_rfl)) (fun ρ w' h1 h2 hg => by show ((Instr.indexAt 22 (ρ (.tmp 21)) (ρ (.tmp 22)) >>= fun v => pure (Next.value v)) : Sem Next).run Try.prog w' = _; rw [h1, h2, Sem.run_bind, run_idxR w' Try.underlying22 (size := 3) (by kernel_rfl) ad' m.length c' k (by omega)]; rfl) ?_
        refine GW.p1 (tokV m[k]) rfl trivial (kn (t := 23) (j := 6) (by kernel_rfl)) (fun ρ w' hρ hg => by show ((Instr.loadAt 37 (ρ (.tmp 23)) >>= fun v => pure (Next.value v)) : Sem Next).run Try.prog w' = _; rw [hρ, Sem.run_bind, run_ldTok (.inr rfl) w' _ _ m[k] ((hg.cell (p := ad'.add (k * 3)) hlt3).trans f0) ((hg.cell (p := ⟨(ad'.add (k * 3)).block, (ad'.add (k * 3)).off + 1, none⟩) hlt3).trans f1) ((hg.cell (p := ⟨(ad'.add (k * 3)).block, (ad'.add (k * 3)).off + 2, none⟩) hlt3).trans f2) rfl]; rfl) ?_
        refine GW.bin (.bool q) rfl trivial rfl (kn (t := 20) (j := 3) (by kernel_rfl)) (kn (t := 24) (j := 7) (by kernel_rfl)) (fun w' => by rw [run_neq_tok _ (.inr rfl), hqe.out]) ?_
        refine GW.done (by simp) (by kernel_rfl) (fun w' hg_ => ?_)
        intro v0 _ v1 _ v2 _ v3 _ v4 _ v5 _ v6 _ v7 _ v8 h8
        obtain rfl : v8 = (.bool q) := h8
        simp only [GFin, Act.put, List.setIfInBounds_toArray, List.set_cons_succ, List.set_cons_zero]
        clear e0 e1 e2 f0 f1 f2
        cases q with
        | false =>
          have hte := Lib.hid (take_snoc_eq h hkm he.out (by simpa using hqe.out))
          go_wp2
          go_roundw
          case rel => exact ⟨k + 1, by omega, by go_num, hte, Gr.trans hg hg_⟩
          case measure => simp [intOf]; omega
        | true =>
          have hfa := Lib.hid (ne_at h hkm (by simpa using hqe.out))
          go_wp2
          go_ret
          exact ⟨ret_bool hfa.out.symm, Gr.trans hg hg_⟩
      · obtain rfl : k = l.length := by omega
        have hte := he.out
        rw [List.take_length, List.take_of_length_le (by omega)] at hte
        replace hte := Lib.hid hte
        go_wp2
        go_ret
        exact ⟨ret_bool (decide_eq_true hte.out).symm, hg⟩
  · have hfa : Hid (decide (l = m) = false) := Lib.hid (by rw [decide_eq_false_iff_not]; intro e; exact hn (by rw [e]))
    have hn' : ¬ (l.length : Int) = (m.length : Int) := by omega
    go_enter Try.func10, Try.ntmps10
    go_wp2
    go_ret
    exact ⟨ret_bool hfa.out.symm, Gr.refl w⟩
set_option maxHeartbeats 4000000 in
theorem equal_any (A : Option Addr) (c : Nat) (l : List Tok) (A' : Option Addr) (c' : Nat) (m : List Tok) (w : World) (hl : TR w w.heap.size A l) (hm : TR w w.heap.size A' m) (hk40 : l.length ≤ 1000000) :
    Calls Try.prog 25 #[.slice A l.length c, .slice A' m.length c'] w fun e w' => e = .returned (.bool (decide (l = m))) ∧ Gr w w' := by
  have hl' := Lib.hid hl
  have hm' := Lib.hid hm
  clear hl hm
  by_cases hn : l.length = m.length
  · go_enter Try.func25, Try.ntmps25
    go_wp2
    go_loopw [5, 13] (fun _ i wr => ∃ k : Nat, k ≤ l.length ∧ i = .int .i64 (k : Int) ∧ Hid (l.take k = m.take k) ∧ Gr w wr) (fun _ i _ => l.length - (intOf i).toNat)
    case atStart => exact ⟨0, by omega, rfl, Lib.hid rfl, Gr.refl w⟩
    case round =>
      obtain ⟨k, hk, rfl, he, hg⟩ := hrel
      by_cases h : k < l.length
      · obtain ⟨ad, hA, hlt, e0, e1, e2⟩ := (hl'.out.below hg).at_ h
        obtain ⟨ad', hA', hlt', f0, f1, f2⟩ := (hm'.out.below hg).at_ (k := k) (by omega)
        subst hA hA'
        have hlt2 : (ad.add (k * 3)).block < wr.heap.size := by rw [block_of_add]; exact Nat.lt_of_lt_of_le hlt (Below.size hg)
        have hlt3 : (ad'.add (k * 3)).block < wr.heap.size := by rw [block_of_add]; exact Nat.lt_of_lt_of_le hlt' (Below.size hg)
        have hkm : k < m.length := by omega
        obtain ⟨q, hqe⟩ : ∃ q, decide (l[k] ≠ m[k]) = q := ⟨_, rfl⟩
        replace hqe := Lib.hid hqe
        go_wp2
        refine region_grow (by kernel_rfl) (by kernel_rfl) ?_
        refine GW.mv rfl trivial (.inl rfl) (kn0 (t := 0) (c := .slice (some ad) l.length c) (by kernel_rfl) rfl) (eqv_lasts _) ?_
        refine GW.mv rfl trivial (.inl rfl) (kn0 (t := 5) (c := .int .i64 (k : Int)) (by kernel_rfl) rfl) (eqv_lasts _) ?_
        refine GW.p2 (.pointer (some (ad.add (k * 3)))) rfl trivial (kn (t := 16) (j := 0) (by kernel_rfl)) (kn (t := 17) (j := 1) (by kernel_rfl)) (fun ρ w' h1 h2 hg => by show ((Instr.indexAt 25 (ρ (.tmp 16)) (ρ (.tmp 17)) >>= fun v => pure (Next.value v)) : Sem Next).run Try.prog w' = _; rw [h1, h2, Sem.run_bind, run_idxR w' Try.underlying25 (size := 3) (by kernel_rfl) ad l.length c k (by omega)]; rfl) ?_
        refine GW.p1 (tokV l[k]) rfl trivial (kn (t := 18) (j := 2) (by kernel_rfl)) (fun ρ w' hρ hg => by show ((Instr.loadAt 39 (ρ (.tmp 18)) >>= fun v => pure (Next.value v)) : Sem Next).run Try.prog w' = _; rw [hρ, Sem.run_bind, run_ldTok (.inl rfl) w' _ _ l[k] ((hg.cell (p := ad.add (k * 3)) hlt2).trans e0) ((hg.cell (p := ⟨(ad.add (k * 3)).block, (ad.add (k * 3)).off + 1, none⟩) hlt2).trans e1) ((hg.cell (p := ⟨(ad.add (k * 3)).block, (ad.add (k * 3)).off + 2, none⟩) hlt2).trans e2) rfl]; rfl) ?_
        refine GW.mv rfl trivial (.inl rfl) (kn0 (t := 1) (c := .slice (some ad') m.length c') (by kernel_rfl) rfl) (eqv_lasts _) ?_
        refine GW.mv rfl trivial (.inl rfl) (kn0 (t := 5) (c := .int .i64 (k : Int)) (by kernel_rfl) rfl) (eqv_lasts _) ?_
        refine GW.p2 (.pointer (some (ad'.add (k * 3)))) rfl trivial (kn (t := 20) (j := 4) (by kernel_rfl)) (kn (t := 21) (j := 5) (by kernel_rfl)) (fun ρ w' h1 h2 hg => by show ((Instr.indexAt 25 (ρ (.tmp 20)) (ρ (.tmp 21)) >>= fun v => pure (Next.value v)) : Sem Next).run Try.prog w' = _; rw [h1, h2, Sem.run_bind, run_idxR w' Try.underlying25 (size := 3) (by kernel_rfl) ad' m.length c' k (by omega)]; rfl) ?_
        refine GW.p1 (tokV m[k]) rfl trivial (kn (t := 22) (j := 6) (by kernel_rfl)) (fun ρ w' hρ hg => by show ((Instr.loadAt 39 (ρ (.tmp 22)) >>= fun v => pure (Next.value v)) : Sem Next).run Try.prog w' = _; rw [hρ, Sem.run_bind, run_ldTok (.inl rfl) w' _ _ m[k] ((hg.cell (p := ad'.add (k * 3)) hlt3).trans f0) ((hg.cell (p := ⟨(ad'.add (k * 3)).block, (ad'.add (k * 3)).off + 1, none⟩) hlt3).trans f1) ((hg.cell (p := ⟨(ad'.add (k * 3)).block, (ad'.add (k * 3)).off + 2, none⟩) hlt3).trans f2) rfl]; rfl) ?_
        refine GW.bin (.bool q) rfl trivial rfl (kn (t := 19) (j := 3) (by kernel_rfl)) (kn (t := 23) (j := 7) (by kernel_rfl)) (fun w' => by rw [run_neq_tok _ (.inl rfl), hqe.out]) ?_
        refine GW.done (by simp) (by kernel_rfl) (fun w' hg_ => ?_)
        intro v0 _ v1 _ v2 _ v3 _ v4 _ v5 _ v6 _ v7 _ v8 h8
        obtain rfl : v8 = (.bool q) := h8
        simp only [GFin, Act.put, List.setIfInBounds_toArray, List.set_cons_succ, List.set_cons_zero]
        clear e0 e1 e2 f0 f1 f2
        cases q with
        | false =>
          have hte := Lib.hid (take_snoc_eq h hkm he.out (by simpa using hqe.out))
          go_wp2
          go_roundw
          case rel => exact ⟨k + 1, by omega, by go_num, hte, Gr.trans hg hg_⟩
          case measure => simp [intOf]; omega
        | true =>
          have hfa := Lib.hid (ne_at h hkm (by simpa using hqe.out))
          go_wp2
          go_ret
          exact ⟨ret_bool hfa.out.symm, Gr.trans hg hg_⟩
      · obtain rfl : k = l.length := by omega
        have hte := he.out
        rw [List.take_length, List.take_of_length_le (by omega)] at hte
        replace hte := Lib.hid hte
        go_wp2
        go_ret
        exact ⟨ret_bool (decide_eq_true hte.out).symm, hg⟩
  · have hfa : Hid (decide (l = m) = false) := Lib.hid (by rw [decide_eq_false_iff_not]; intro e; exact hn (by rw [e]))
    have hn' : ¬ (l.length : Int) = (m.length : Int) := by omega
    go_enter Try.func25, Try.ntmps25
    go_wp2
    go_ret
    exact ⟨ret_bool hfa.out.symm, Gr.refl w⟩
set_option maxHeartbeats 4000000 in
theorem same_any (A : Option Addr) (c : Nat) (l : List Tok) (A' : Option Addr) (c' : Nat) (m : List Tok) (w : World) (hl : TR w w.heap.size A l) (hm : TR w w.heap.size A' m) (hk40 : l.length ≤ 1000000) :
    Calls Try.prog 13 #[.slice A l.length c, .slice A' m.length c'] w fun e w' => e = .returned (.bool (decide (l = m))) ∧ Gr w w' := by
  have con := Lib.hid (equal_any A c l A' c' m w hl hm hk40)
  clear hl hm
  go_enter Try.func13, Try.ntmps13
  go_wp2_with fail
  go_at_call 25
  refine con.out.mono ?_
  rintro e w1 ⟨rfl, hg1⟩
  go_wp2
  go_ret
  exact ⟨rfl, hg1⟩
end Tk
end Go.Proofs.Ythacnfoeaefeiaa
