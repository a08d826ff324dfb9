/- The walks of To and From. No condition but sizes. -/
import Derived.Test.YtgnogoghfendpaaTokJoin
import Derived.Test.YtgnogoghfendpaaGrowM
set_option linter.unusedVariables false
set_option linter.unusedSimpArgs false
namespace Go.Proofs.Ytgnogoghfendpaa
open Go Go.RowKit W
namespace Tk
theorem refRow : RowType Try.prog 37 3 32 := by
  obtain ⟨i, h1, h2, h3, h4⟩ := info_parts (show (Try.prog.info? 37).map (fun i => (i.zero, i.size, i.bytes)) = some (some (.agg #[.int .i64 0, .int .i64 0, .string ⟨#[]⟩]), 3, 32) by kernel_rfl)
  exact ⟨i, _, h1, h2, h3, h4, rfl, by omega⟩
theorem rowTypeto : RowType Try.prog 35 3 32 := tokRow
theorem rowTypefrom : RowType Try.prog 37 3 32 := refRow
def OutT (E : TypeId) (w : World) (L : List Tok) : Ending → World → Prop := fun e w' => ∃ A c, e = .returned (.slice A L.length c) ∧ OT E w' w.heap.size (.slice A L.length c) L ∧ Gr w w'
theorem OT.drew {E : TypeId} {w : World} {base : Nat} {v : Value} {l : List Tok} (h : OT E w base v l) : OT E w.drew base v l := h
theorem tcs_take (l : List Tok) (k : Nat) (h : k < l.length) : tcs (l.take (k + 1)) = tcs (l.take k) ++ tcs [l[k]] := by
  rw [List.take_succ_eq_append_getElem h, tcs_append]
set_option maxHeartbeats 4000000 in
theorem to_any (A : Option Addr) (c : Nat) (l : List Tok) (w : World) (hl : TR w w.heap.size A l) (hk40 : l.length ≤ 1000000) :
    Calls Try.prog 8 #[.slice A l.length c] w (OutT 35 w l) := by
  have hl' := Lib.hid hl
  clear hl
  go_enter Try.func8, Try.ntmps8
  go_wp2
  go_loopw [3, 4] (fun out i wr => ∃ k : Nat, k ≤ l.length ∧ i = .int .i64 (k : Int) ∧ (∃ A0 c0, out = .slice A0 k c0 ∧ OR 35 3 wr w.heap.size (.slice A0 k c0) k (tcs (l.take k))) ∧ Gr w wr) (fun _ i _ => l.length - (intOf i).toNat)
  case atStart => exact ⟨0, by omega, rfl, ⟨none, 0, rfl, World.ownsRow_nil _ _ _ _⟩, Gr.refl w⟩
  case round =>
    obtain ⟨k, hk, rfl, ⟨A0, c0, rfl, ho⟩, hg⟩ := hrel
    by_cases h : k < l.length
    · obtain ⟨ad, hA, hlt, e0, e1, e2⟩ := (hl'.out.below hg).at_ h
      subst hA
      have ht := Lib.hid (tcs_take l k h)
      generalize l[k] = t at *
      have hlt2 : (ad.add (k * 3)).block < wr.heap.size := by rw [block_of_add]; exact Nat.lt_of_lt_of_le hlt (Below.size hg)
      have hWw := Below.size hg
      go_wp2
      refine region_grow (by kernel_rfl) (by kernel_rfl) ?_
      refine GW.mv rfl trivial (.inl rfl) (kn0 (t := 3) (c := .slice A0 k c0) (by kernel_rfl) rfl) (eqv_lasts _) ?_
      refine GW.mv rfl trivial (.inl rfl) (kn0 (t := 0) (c := .slice (some ad) l.length c) (by kernel_rfl) rfl) (eqv_lasts _) ?_
      refine GW.mv rfl trivial (.inl rfl) (kn0 (t := 4) (c := .int .i64 (k : Int)) (by kernel_rfl) rfl) (eqv_lasts _) ?_
      refine GW.p2 (.pointer (some (ad.add (k * 3)))) rfl trivial (kn (t := 12) (j := 1) (by kernel_rfl)) (kn (t := 13) (j := 2) (by kernel_rfl)) (fun ρ w' h1 h2 hg => by show ((Instr.indexAt 23 (ρ (.tmp 12)) (ρ (.tmp 13)) >>= fun v => pure (Next.value v)) : Sem Next).run Try.prog w' = _; rw [h1, h2, Sem.run_bind, run_idxR w' Try.underlying23 (size := 3) (by kernel_rfl) ad l.length c k h]; rfl) ?_
      refine GW.p1 (.pointer (some (ad.add (k * 3)))) rfl trivial (kn (t := 14) (j := 3) (by kernel_rfl)) (fun ρ w' hρ hg => by simp [execOp, hρ, go_sem]) ?_
      refine GW.p1 (.int .i64 t.f) rfl trivial (kn (t := 15) (j := 4) (by kernel_rfl)) (fun ρ w' hρ hg => by simp [execOp, hρ, go_sem, (hg.cell (p := (ad.add (k * 3))) hlt2).trans e0]) ?_
      refine GW.mv rfl trivial (.inl rfl) (kn0 (t := 0) (c := .slice (some ad) l.length c) (by kernel_rfl) rfl) (eqv_lasts _) ?_
      refine GW.mv rfl trivial (.inl rfl) (kn0 (t := 4) (c := .int .i64 (k : Int)) (by kernel_rfl) rfl) (eqv_lasts _) ?_
      refine GW.p2 (.pointer (some (ad.add (k * 3)))) rfl trivial (kn (t := 17) (j := 6) (by kernel_rfl)) (kn (t := 18) (j := 7) (by kernel_rfl)) (fun ρ w' h1 h2 hg => by show ((Instr.indexAt 23 (ρ (.tmp 17)) (ρ (.tmp 18)) >>= fun v => pure (Next.value v)) : Sem Next).run Try.prog w' = _; rw [h1, h2, Sem.run_bind, run_idxR w' Try.underlying23 (size := 3) (by kernel_rfl) ad l.length c k h]; rfl) ?_
      refine GW.p1 (.pointer (some ⟨(ad.add (k * 3)).block, (ad.add (k * 3)).off + 1, none⟩)) rfl trivial (kn (t := 19) (j := 8) (by kernel_rfl)) (fun ρ w' hρ hg => by simp [execOp, hρ, go_sem]) ?_
      refine GW.p1 (.int .i64 t.m) rfl trivial (kn (t := 20) (j := 9) (by kernel_rfl)) (fun ρ w' hρ hg => by simp [execOp, hρ, go_sem, (hg.cell (p := ⟨(ad.add (k * 3)).block, (ad.add (k * 3)).off + 1, none⟩) hlt2).trans e1]) ?_
      refine GW.mv rfl trivial (.inl rfl) (kn0 (t := 0) (c := .slice (some ad) l.length c) (by kernel_rfl) rfl) (eqv_lasts _) ?_
      refine GW.mv rfl trivial (.inl rfl) (kn0 (t := 4) (c := .int .i64 (k : Int)) (by kernel_rfl) rfl) (eqv_lasts _) ?_
      refine GW.p2 (.pointer (some (ad.add (k * 3)))) rfl trivial (kn (t := 22) (j := 11) (by kernel_rfl)) (kn (t := 23) (j := 12) (by kernel_rfl)) (fun ρ w' h1 h2 hg => by show ((Instr.indexAt 23 (ρ (.tmp 22)) (ρ (.tmp 23)) >>= fun v => pure (Next.value v)) : Sem Next).run Try.prog w' = _; rw [h1, h2, Sem.run_bind, run_idxR w' Try.underlying23 (size := 3) (by kernel_rfl) ad l.length c k h]; rfl) ?_
      refine GW.p1 (.pointer (some ⟨(ad.add (k * 3)).block, (ad.add (k * 3)).off + 2, none⟩)) rfl trivial (kn (t := 24) (j := 13) (by kernel_rfl)) (fun ρ w' hρ hg => by simp [execOp, hρ, go_sem]) ?_
      refine GW.p1 (.string ⟨t.d.toArray⟩) rfl trivial (kn (t := 25) (j := 14) (by kernel_rfl)) (fun ρ w' hρ hg => by simp [execOp, hρ, go_sem, (hg.cell (p := ⟨(ad.add (k * 3)).block, (ad.add (k * 3)).off + 2, none⟩) hlt2).trans e2]) ?_
      refine GW.build #[(0, .int .i64 t.f), (1, .int .i64 t.m), (2, .string ⟨t.d.toArray⟩)] (.agg #[.int .i64 t.f, .int .i64 t.m, .string ⟨t.d.toArray⟩]) rfl trivial rfl ⟨rfl, (kn (t := 16) (j := 5) (by kernel_rfl)), rfl, (kn (t := 21) (j := 10) (by kernel_rfl)), rfl, (kn (t := 26) (j := 15) (by kernel_rfl)), trivial⟩ (fun w => by kernel_rfl) ?_
      refine GW.row1 (E := 35) #[.int .i64 t.f, .int .i64 t.m, .string ⟨t.d.toArray⟩] rfl rfl trivial rfl (kn (t := 27) (j := 16) (by kernel_rfl)) (fun w => by kernel_rfl) ?_
      refine GW.tailT (m := 18) (by simp) (by kernel_rfl) (by kernel_rfl) (fun w' hg_ => ?_)
      intro v0 h0 v1 _ v2 _ v3 _ v4 _ v5 _ v6 _ v7 _ v8 _ v9 _ v10 _ v11 _ v12 _ v13 _ v14 _ v15 _ v16 _ v17 h17
      obtain rfl : v0 = (.slice A0 k c0) := h0
      simp only [GFin, List.take_succ_cons, List.take_zero, List.drop_succ_cons, List.drop_zero, Act.put, List.setIfInBounds_toArray, List.set_cons_succ, List.set_cons_zero]
      obtain ⟨A5, c5, rfl, r5⟩ := h17
      have oL := Lib.hid (OR.below ho hg_)
      have r5 := Lib.hid r5
      have gL := Lib.hid (Gr.trans hg hg_)
      have hsz := Below.size hg_
      clear ho hg hg_ e0 e1 e2
      go_wp2_with (first
        | (refine wpList_append_rows (v := .slice A0 k c0) rfl (.tmp 11) (.tmp 28) 26 rfl Try.underlying26 rowTypeto rfl (by exact oL.out) w'.heap.size A5 1 c5 (tcs [t]) rfl (by exact r5.out) (tcs_one_cell _) (by unfold maxLen; omega) (by omega) (by omega) (tcs (l.take (k + 1))) ht.out (k + 1) rfl ?_; intro A9 c9 w9 o9 b9; have g9 : Gr w w9 := Below.trans gL.out b9; clear oL r5 gL b9))
      go_roundw
      case rel => exact ⟨k + 1, by omega, by go_num, ⟨A9, c9, rfl, o9⟩, g9⟩
      case measure => simp [intOf]; omega
    · obtain rfl : k = l.length := by omega
      rw [List.take_length] at ho
      replace ho := Lib.hid ho
      go_wp2
      go_ret
      exact ⟨A0, c0, rfl, ho.out, hg⟩
end Tk
end Go.Proofs.Ytgnogoghfendpaa

