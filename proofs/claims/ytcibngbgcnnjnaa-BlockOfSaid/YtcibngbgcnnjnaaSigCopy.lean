/- The walks of the law's to and from. No condition but sizes. -/
import Derived.Test.YtcibngbgcnnjnaaSigRows
import Derived.Test.YtcibngbgcnnjnaaRound
import Derived.Test.YtcibngbgcnnjnaaSigKit
import Derived.IntWalk
set_option linter.unusedVariables false
set_option linter.unusedSimpArgs false
namespace Go.Proofs.Ytcibngbgcnnjnaa
open Go Go.RowKit W
namespace Sg
theorem rowTypeto : RowType Try.prog 33 3 24 := signRow
theorem rowTypefrom : RowType Try.prog 40 3 24 := refSignRow
theorem infoto (a b c d e f : Value) : (Try.prog.info? 35).map (·.size) = some (#[a, b, c, d, e, f] : Array Value).size := sigInfo a b c d e f
theorem infofrom (a b c d e f : Value) : (Try.prog.info? 45).map (·.size) = some (#[a, b, c, d, e, f] : Array Value).size := refSigInfo a b c d e f
abbrev sigZ0 : Array Value := #[.int .i64 0, .slice none 0 0, .int .i64 0, .int .u32 0, .int .u64 0, .int .u64 0]
def OutG (E : TypeId) (w : World) (s : Sig) : Ending → World → Prop := fun e w' => ∃ A c, e = .returned (sigV s A c) ∧ OS E w' w.heap.size (.slice A s.bs.length c) s.bs ∧ Gr w w'
theorem keep_blk {w a b : World} {g : Nat} (h : Kb g a b) (h1 : Gr w a) (h2 : w.heap.size ≤ g) : Gr w b :=
  ⟨h.os.trans h1.os, h.tape.trans h1.tape, h.output.trans h1.output, Nat.le_trans h1.size h.size, fun i hi => (World.grownBy.block h i (Nat.lt_of_lt_of_le hi h1.size) (fun e => by cases e; omega)).trans (h1.block i hi)⟩
set_option maxRecDepth 100000 in
set_option maxHeartbeats 4000000 in
theorem to_any (s : Sig) (A : Option Addr) (c : Nat) (w : World) (hl : SR w w.heap.size A s.bs) (hk40 : s.bs.length ≤ 1000000) :
    Calls Try.prog 23 #[sigV s A c] w (OutG 33 w s) := by
  obtain ⟨z, bs, t, x⟩ := s
  simp only at hl hk40
  have hl' := Lib.hid hl
  clear hl
  have b1 := Lib.hid (((Blk.new w 45 (sigC z (.slice A bs.length c) t x)).alloc (.cells sigZ0 35)).alloc (.cells (sigC z (.slice none 0 0) t x) 35))
  have b2 := Blk.new (w.alloc (.cells (sigC z (.slice A bs.length c) t x) 45)) 35 sigZ0
  have b3 := Blk.new ((w.alloc (.cells (sigC z (.slice A bs.length c) t x) 45)).alloc (.cells sigZ0 35)) 35 (sigC z (.slice none 0 0) t x)
  rw [World.size_alloc] at b2 b3
  rw [World.size_alloc] at b3
  replace b2 := Lib.hid (b2.alloc (.cells (sigC z (.slice none 0 0) t x) 35))
  replace b3 := Lib.hid b3
  have g1 := Lib.hid ((((Gr.refl w).alloc (.cells (sigC z (.slice A bs.length c) t x) 45)).alloc (.cells sigZ0 35)).alloc (.cells (sigC z (.slice none 0 0) t x) 35))
  go_enter Try.func23, Try.ntmps23
  go_wp2
  generalize ((w.alloc (.cells (sigC z (.slice A bs.length c) t x) 45)).alloc (.cells sigZ0 35)).alloc (.cells (sigC z (.slice none 0 0) t x) 35) = w1 at *
  have hs1 : w.heap.size + 1 + 1 < w1.heap.size := b3.out.lt
  go_loopw [4] (fun i wr => ∃ k : Nat, k ≤ bs.length ∧ i = .int .i64 (k : Int) ∧ Kb (w.heap.size + 1 + 1) w1 wr ∧ (∃ A0 c0, Blk wr (w.heap.size + 1 + 1) 35 (sigC z (.slice A0 k c0) t x) ∧ OR 33 3 wr w1.heap.size (.slice A0 k c0) k (scs (bs.take k)))) (fun i _ => bs.length - (intOf i).toNat)
  case atStart => exact ⟨0, by omega, rfl, Kb.refl _ _, none, 0, b3.out, World.ownsRow_nil _ _ _ _⟩
  case round =>
    obtain ⟨k, hk, rfl, hkb, A0, c0, bo, ho⟩ := hrel
    have bs1 := Lib.hid (hkb.blk b1.out (by omega))
    have y1 := bs1.out.cell 1
    have hWw : w1.heap.size ≤ wr.heap.size := hkb.size
    have hWr : Below w.heap.size w wr := keep_blk hkb g1.out (by omega)
    by_cases h : k < bs.length
    · obtain ⟨ad, hA, hlt, e0, e1, e2⟩ := (hl'.out.below hWr).at_ h
      subst hA
      have ht := Lib.hid (scs_take bs k h)
      generalize bs[k] = y at *
      have hlt2 : (ad.add (k * 3)).block < wr.heap.size := by rw [block_of_add]; omega
      have bo := Lib.hid bo
      have hkb := Lib.hid hkb
      have hWr := Lib.hid hWr
      go_wp2
      refine region_grow (by kernel_rfl) (by kernel_rfl) ?_
      refine GW.p1 (.pointer (some ⟨w.heap.size + 1 + 1, 1, none⟩)) rfl trivial (kn0 (t := 3) (c := .pointer (some ⟨w.heap.size + 1 + 1, 0, none⟩)) (by kernel_rfl) rfl) (fun ρ w' hρ hg => by simp [execOp, hρ, go_sem]) ?_
      refine GW.p1 (.slice A0 k c0) rfl trivial (kn (t := 24) (j := 0) (by kernel_rfl)) (fun ρ w' hρ hg => by simp [execOp, hρ, go_sem, (hg.cell (p := ⟨w.heap.size + 1 + 1, 1, none⟩) bo.out.lt).trans (bo.out.cell 1)]) ?_
      refine GW.p1 (.pointer (some ⟨w.heap.size, 1, none⟩)) rfl trivial (kn0 (t := 1) (c := .pointer (some ⟨w.heap.size, 0, none⟩)) (by kernel_rfl) rfl) (fun ρ w' hρ hg => by simp [execOp, hρ, go_sem]) ?_
      refine GW.p1 (.slice (some ad) bs.length c) rfl trivial (kn (t := 26) (j := 2) (by kernel_rfl)) (fun ρ w' hρ hg => by simp [execOp, hρ, go_sem, (hg.cell (p := ⟨w.heap.size, 1, none⟩) bs1.out.lt).trans (bs1.out.cell 1)]) ?_
      refine GW.mv rfl trivial (.inl rfl) (kn0 (t := 4) (c := .int .i64 (k : Int)) (by kernel_rfl) rfl) (eqv_lasts _) ?_
      refine GW.p2 (.pointer (some (ad.add (k * 3)))) rfl trivial (kn (t := 27) (j := 3) (by kernel_rfl)) (kn (t := 28) (j := 4) (by kernel_rfl)) (fun ρ w' h1 h2 hg => by show ((Instr.indexAt 43 (ρ (.tmp 27)) (ρ (.tmp 28)) >>= fun v => pure (Next.value v)) : Sem Next).run Try.prog w' = _; rw [h1, h2, Sem.run_bind, run_idxR w' Try.underlying43 (size := 3) (by kernel_rfl) ad _ _ k h]; simp) ?_
      refine GW.p1 (.pointer (some (ad.add (k * 3)))) rfl trivial (kn (t := 29) (j := 5) (by kernel_rfl)) (fun ρ w' hρ hg => by simp [execOp, hρ, go_sem]) ?_
      refine GW.p1 (.int .u32 (n32 y.1)) rfl trivial (kn (t := 30) (j := 6) (by kernel_rfl)) (fun ρ w' hρ hg => by simp [execOp, hρ, go_sem, (hg.cell (p := (ad.add (k * 3))) hlt2).trans e0]) ?_
      refine GW.p1 (.pointer (some ⟨w.heap.size, 1, none⟩)) rfl trivial (kn0 (t := 1) (c := .pointer (some ⟨w.heap.size, 0, none⟩)) (by kernel_rfl) rfl) (fun ρ w' hρ hg => by simp [execOp, hρ, go_sem]) ?_
      refine GW.p1 (.slice (some ad) bs.length c) rfl trivial (kn (t := 32) (j := 8) (by kernel_rfl)) (fun ρ w' hρ hg => by simp [execOp, hρ, go_sem, (hg.cell (p := ⟨w.heap.size, 1, none⟩) bs1.out.lt).trans (bs1.out.cell 1)]) ?_
      refine GW.mv rfl trivial (.inl rfl) (kn0 (t := 4) (c := .int .i64 (k : Int)) (by kernel_rfl) rfl) (eqv_lasts _) ?_
      refine GW.p2 (.pointer (some (ad.add (k * 3)))) rfl trivial (kn (t := 33) (j := 9) (by kernel_rfl)) (kn (t := 34) (j := 10) (by kernel_rfl)) (fun ρ w' h1 h2 hg => by show ((Instr.indexAt 43 (ρ (.tmp 33)) (ρ (.tmp 34)) >>= fun v => pure (Next.value v)) : Sem Next).run Try.prog w' = _; rw [h1, h2, Sem.run_bind, run_idxR w' Try.underlying43 (size := 3) (by kernel_rfl) ad _ _ k h]; simp) ?_
      refine GW.p1 (.pointer (some ⟨(ad.add (k * 3)).block, (ad.add (k * 3)).off + 1, none⟩)) rfl trivial (kn (t := 35) (j := 11) (by kernel_rfl)) (fun ρ w' hρ hg => by simp [execOp, hρ, go_sem]) ?_
      refine GW.p1 (.agg #[.int .u64 (n64 y.2.1), .int .u64 (n64 y.2.2)]) rfl trivial (kn (t := 36) (j := 12) (by kernel_rfl)) (fun ρ w' hρ hg => by simp [execOp, hρ, go_sem, (hg.cell (p := ⟨(ad.add (k * 3)).block, (ad.add (k * 3)).off + 1, none⟩) hlt2).trans e1, (hg.cell (p := ⟨(ad.add (k * 3)).block, (ad.add (k * 3)).off + 2, none⟩) hlt2).trans e2, Nat.add_assoc]) ?_
      refine GW.build #[(0, .int .u32 (n32 y.1)), (1, .agg #[.int .u64 (n64 y.2.1), .int .u64 (n64 y.2.2)])] (sV y) rfl trivial rfl ⟨rfl, (kn (t := 31) (j := 7) (by kernel_rfl)), rfl, (kn (t := 37) (j := 13) (by kernel_rfl)), trivial⟩ (fun w => by kernel_rfl) ?_
      refine GW.row1 (E := 33) #[.int .u32 (n32 y.1), .int .u64 (n64 y.2.1), .int .u64 (n64 y.2.2)] rfl rfl trivial rfl (kn (t := 38) (j := 14) (by kernel_rfl)) (fun w => by kernel_rfl) ?_
      refine GW.tailT (m := 16) (by simp) (by kernel_rfl) (by kernel_rfl) (fun w' hg_ => ?_)
      intro v0 _ v1 h1 v2 _ v3 _ v4 _ v5 _ v6 _ v7 _ v8 _ v9 _ v10 _ v11 _ v12 _ v13 _ v14 _ v15 h15
      obtain rfl : v1 = (.slice A0 k c0) := h1
      simp only [GFin, List.take_succ_cons, List.take_zero, List.drop_succ_cons, List.drop_zero, Act.put, List.setIfInBounds_toArray, List.set_cons_succ, List.set_cons_zero]
      obtain ⟨A5, c5, rfl, r5⟩ := h15
      have oL := Lib.hid (OR.below ho hg_)
      have r5 := Lib.hid r5
      have m3 := Lib.hid (blk_more bo.out hg_)
      have hsz := Below.size hg_
      have hk2 := Lib.hid (hkb.out.gr hg_)
      clear ho hg_ e0 e1 e2 y1 bs1 bo hWr hkb
      go_wp2_with (first
        | ((with_reducible refine wpList_isApp (.tmp 25) (.tmp 39) 27 rfl ?_); refine wpList_append_rowsN (v := .slice A0 k c0) rfl (.tmp 25) (.tmp 39) 27 rfl Try.underlying27 rowTypeto rfl (by exact oL.out) w'.heap.size A5 1 c5 (scs [y]) rfl (by exact r5.out) (scs_one_cell _) (by unfold maxLen; omega) (by omega) (by omega) (scs (bs.take (k + 1))) ht.out (k + 1) rfl ?_; intro A9 c9 w9 o9 b9; have m9 := Lib.hid (m3.out.below b9 hs1); have f9 := m9.out.frozen 1; have y9 := m9.out.cell 1; have k9 := Lib.hid (hk2.out.to b9 (Nat.le_refl _)); replace o9 := Lib.hid o9; clear oL r5 b9 hk2 m3))
      go_roundw
      case rel => exact ⟨k + 1, by omega, by go_num, k9.out.set 1 _, A9, c9, m9.out.set_ 1 _, OR.setFar o9.out hs1 _⟩
      case measure => simp [intOf]; omega
    · obtain rfl : k = bs.length := by omega
      rw [List.take_length] at ho
      replace ho := Lib.hid ho
      have bo := Lib.hid bo
      have br := Lib.hid (hkb.blk b2.out (by omega))
      have hWr := Lib.hid hWr
      clear b1 b2 b3 bs1 g1 hkb
      go_wp2_with (first
        | ((with_reducible refine wpList_isLoad 35 (.tmp 3) rfl ?_); refine wpList_load_row rfl 35 (.tmp 3) rfl (w.heap.size + 1 + 1) rfl 35 _ (0, 0) _ bo.out Try.underlying35 rfl (infoto _ _ _ _ _ _) ?_)
        | ((with_reducible refine wpList_isStore 35 (.tmp 2) (.tmp 42) rfl ?_); refine wpList_store_blk rfl 35 (.tmp 2) (.tmp 42) rfl (w.heap.size + 1) _ rfl rfl 35 sigZ0 br.out (infoto _ _ _ _ _ _) rfl (by simp [Value.oneCell']) ?_; intro w9 n9 k9 z9; replace n9 := Lib.hid n9; replace k9 := Lib.hid k9; replace z9 := Lib.hid z9))
      refine bodyPost_ret (results_cell_row Try.results23 _ _ (w.heap.size + 1) 35 _ (0, 0) _ rfl n9.out Try.underlying35 rfl (infoto _ _ _ _ _ _)) rfl ?_
      exact ⟨A0, c0, rfl, OR.base_le (os_kb ho.out k9.out (by omega)) (by omega), keep_blk k9.out hWr.out (by omega)⟩
set_option maxRecDepth 100000 in
set_option maxHeartbeats 4000000 in
theorem from_any (s : Sig) (A : Option Addr) (c : Nat) (w : World) (hl : SR w w.heap.size A s.bs) (hk40 : s.bs.length ≤ 1000000) :
    Calls Try.prog 15 #[sigV s A c] w (OutG 40 w s) := by
  obtain ⟨z, bs, t, x⟩ := s
  simp only at hl hk40
  have hl' := Lib.hid hl
  clear hl
  have b1 := Lib.hid (((Blk.new w 35 (sigC z (.slice A bs.length c) t x)).alloc (.cells sigZ0 45)).alloc (.cells (sigC z (.slice none 0 0) t x) 45))
  have b2 := Blk.new (w.alloc (.cells (sigC z (.slice A bs.length c) t x) 35)) 45 sigZ0
  have b3 := Blk.new ((w.alloc (.cells (sigC z (.slice A bs.length c) t x) 35)).alloc (.cells sigZ0 45)) 45 (sigC z (.slice none 0 0) t x)
  rw [World.size_alloc] at b2 b3
  rw [World.size_alloc] at b3
  replace b2 := Lib.hid (b2.alloc (.cells (sigC z (.slice none 0 0) t x) 45))
  replace b3 := Lib.hid b3
  have g1 := Lib.hid ((((Gr.refl w).alloc (.cells (sigC z (.slice A bs.length c) t x) 35)).alloc (.cells sigZ0 45)).alloc (.cells (sigC z (.slice none 0 0) t x) 45))
  go_enter Try.func15, Try.ntmps15
  go_wp2
  generalize ((w.alloc (.cells (sigC z (.slice A bs.length c) t x) 35)).alloc (.cells sigZ0 45)).alloc (.cells (sigC z (.slice none 0 0) t x) 45) = w1 at *
  have hs1 : w.heap.size + 1 + 1 < w1.heap.size := b3.out.lt
  go_loopw [4] (fun i wr => ∃ k : Nat, k ≤ bs.length ∧ i = .int .i64 (k : Int) ∧ Kb (w.heap.size + 1 + 1) w1 wr ∧ (∃ A0 c0, Blk wr (w.heap.size + 1 + 1) 45 (sigC z (.slice A0 k c0) t x) ∧ OR 40 3 wr w1.heap.size (.slice A0 k c0) k (scs (bs.take k)))) (fun i _ => bs.length - (intOf i).toNat)
  case atStart => exact ⟨0, by omega, rfl, Kb.refl _ _, none, 0, b3.out, World.ownsRow_nil _ _ _ _⟩
  case round =>
    obtain ⟨k, hk, rfl, hkb, A0, c0, bo, ho⟩ := hrel
    have bs1 := Lib.hid (hkb.blk b1.out (by omega))
    have y1 := bs1.out.cell 1
    have hWw : w1.heap.size ≤ wr.heap.size := hkb.size
    have hWr : Below w.heap.size w wr := keep_blk hkb g1.out (by omega)
    by_cases h : k < bs.length
    · obtain ⟨ad, hA, hlt, e0, e1, e2⟩ := (hl'.out.below hWr).at_ h
      subst hA
      have ht := Lib.hid (scs_take bs k h)
      generalize bs[k] = y at *
      have hlt2 : (ad.add (k * 3)).block < wr.heap.size := by rw [block_of_add]; omega
      have bo := Lib.hid bo
      have hkb := Lib.hid hkb
      have hWr := Lib.hid hWr
      go_wp2
      refine region_grow (by kernel_rfl) (by kernel_rfl) ?_
      refine GW.p1 (.pointer (some ⟨w.heap.size + 1 + 1, 1, none⟩)) rfl trivial (kn0 (t := 3) (c := .pointer (some ⟨w.heap.size + 1 + 1, 0, none⟩)) (by kernel_rfl) rfl) (fun ρ w' hρ hg => by simp [execOp, hρ, go_sem]) ?_
      refine GW.p1 (.slice A0 k c0) rfl trivial (kn (t := 24) (j := 0) (by kernel_rfl)) (fun ρ w' hρ hg => by simp [execOp, hρ, go_sem, (hg.cell (p := ⟨w.heap.size + 1 + 1, 1, none⟩) bo.out.lt).trans (bo.out.cell 1)]) ?_
      refine GW.p1 (.pointer (some ⟨w.heap.size, 1, none⟩)) rfl trivial (kn0 (t := 1) (c := .pointer (some ⟨w.heap.size, 0, none⟩)) (by kernel_rfl) rfl) (fun ρ w' hρ hg => by simp [execOp, hρ, go_sem]) ?_
      refine GW.p1 (.slice (some ad) bs.length c) rfl trivial (kn (t := 26) (j := 2) (by kernel_rfl)) (fun ρ w' hρ hg => by simp [execOp, hρ, go_sem, (hg.cell (p := ⟨w.heap.size, 1, none⟩) bs1.out.lt).trans (bs1.out.cell 1)]) ?_
      refine GW.mv rfl trivial (.inl rfl) (kn0 (t := 4) (c := .int .i64 (k : Int)) (by kernel_rfl) rfl) (eqv_lasts _) ?_
      refine GW.p2 (.pointer (some (ad.add (k * 3)))) rfl trivial (kn (t := 27) (j := 3) (by kernel_rfl)) (kn (t := 28) (j := 4) (by kernel_rfl)) (fun ρ w' h1 h2 hg => by show ((Instr.indexAt 27 (ρ (.tmp 27)) (ρ (.tmp 28)) >>= fun v => pure (Next.value v)) : Sem Next).run Try.prog w' = _; rw [h1, h2, Sem.run_bind, run_idxR w' Try.underlying27 (size := 3) (by kernel_rfl) ad _ _ k h]; simp) ?_
      refine GW.p1 (.pointer (some (ad.add (k * 3)))) rfl trivial (kn (t := 29) (j := 5) (by kernel_rfl)) (fun ρ w' hρ hg => by simp [execOp, hρ, go_sem]) ?_
      refine GW.p1 (.int .u32 (n32 y.1)) rfl trivial (kn (t := 30) (j := 6) (by kernel_rfl)) (fun ρ w' hρ hg => by simp [execOp, hρ, go_sem, (hg.cell (p := (ad.add (k * 3))) hlt2).trans e0]) ?_
      refine GW.p1 (.pointer (some ⟨w.heap.size, 1, none⟩)) rfl trivial (kn0 (t := 1) (c := .pointer (some ⟨w.heap.size, 0, none⟩)) (by kernel_rfl) rfl) (fun ρ w' hρ hg => by simp [execOp, hρ, go_sem]) ?_
      refine GW.p1 (.slice (some ad) bs.length c) rfl trivial (kn (t := 32) (j := 8) (by kernel_rfl)) (fun ρ w' hρ hg => by simp [execOp, hρ, go_sem, (hg.cell (p := ⟨w.heap.size, 1, none⟩) bs1.out.lt).trans (bs1.out.cell 1)]) ?_
      refine GW.mv rfl trivial (.inl rfl) (kn0 (t := 4) (c := .int .i64 (k : Int)) (by kernel_rfl) rfl) (eqv_lasts _) ?_
      refine GW.p2 (.pointer (some (ad.add (k * 3)))) rfl trivial (kn (t := 33) (j := 9) (by kernel_rfl)) (kn (t := 34) (j := 10) (by kernel_rfl)) (fun ρ w' h1 h2 hg => by show ((Instr.indexAt 27 (ρ (.tmp 33)) (ρ (.tmp 34)) >>= fun v => pure (Next.value v)) : Sem Next).run Try.prog w' = _; rw [h1, h2, Sem.run_bind, run_idxR w' Try.underlying27 (size := 3) (by kernel_rfl) ad _ _ k h]; simp) ?_
      refine GW.p1 (.pointer (some ⟨(ad.add (k * 3)).block, (ad.add (k * 3)).off + 1, none⟩)) rfl trivial (kn (t := 35) (j := 11) (by kernel_rfl)) (fun ρ w' hρ hg => by simp [execOp, hρ, go_sem]) ?_
      refine GW.p1 (.agg #[.int .u64 (n64 y.2.1), .int .u64 (n64 y.2.2)]) rfl trivial (kn (t := 36) (j := 12) (by kernel_rfl)) (fun ρ w' hρ hg => by simp [execOp, hρ, go_sem, (hg.cell (p := ⟨(ad.add (k * 3)).block, (ad.add (k * 3)).off + 1, none⟩) hlt2).trans e1, (hg.cell (p := ⟨(ad.add (k * 3)).block, (ad.add (k * 3)).off + 2, none⟩) hlt2).trans e2, Nat.add_assoc]) ?_
      refine GW.build #[(0, .int .u32 (n32 y.1)), (1, .agg #[.int .u64 (n64 y.2.1), .int .u64 (n64 y.2.2)])] (sV y) rfl trivial rfl ⟨rfl, (kn (t := 31) (j := 7) (by kernel_rfl)), rfl, (kn (t := 37) (j := 13) (by kernel_rfl)), trivial⟩ (fun w => by kernel_rfl) ?_
      refine GW.row1 (E := 40) #[.int .u32 (n32 y.1), .int .u64 (n64 y.2.1), .int .u64 (n64 y.2.2)] rfl rfl trivial rfl (kn (t := 38) (j := 14) (by kernel_rfl)) (fun w => by kernel_rfl) ?_
      refine GW.tailT (m := 16) (by simp) (by kernel_rfl) (by kernel_rfl) (fun w' hg_ => ?_)
      intro v0 _ v1 h1 v2 _ v3 _ v4 _ v5 _ v6 _ v7 _ v8 _ v9 _ v10 _ v11 _ v12 _ v13 _ v14 _ v15 h15
      obtain rfl : v1 = (.slice A0 k c0) := h1
      simp only [GFin, List.take_succ_cons, List.take_zero, List.drop_succ_cons, List.drop_zero, Act.put, List.setIfInBounds_toArray, List.set_cons_succ, List.set_cons_zero]
      obtain ⟨A5, c5, rfl, r5⟩ := h15
      have oL := Lib.hid (OR.below ho hg_)
      have r5 := Lib.hid r5
      have m3 := Lib.hid (blk_more bo.out hg_)
      have hsz := Below.size hg_
      have hk2 := Lib.hid (hkb.out.gr hg_)
      clear ho hg_ e0 e1 e2 y1 bs1 bo hWr hkb
      go_wp2_with (first
        | ((with_reducible refine wpList_isApp (.tmp 25) (.tmp 39) 43 rfl ?_); refine wpList_append_rowsN (v := .slice A0 k c0) rfl (.tmp 25) (.tmp 39) 43 rfl Try.underlying43 rowTypefrom rfl (by exact oL.out) w'.heap.size A5 1 c5 (scs [y]) rfl (by exact r5.out) (scs_one_cell _) (by unfold maxLen; omega) (by omega) (by omega) (scs (bs.take (k + 1))) ht.out (k + 1) rfl ?_; intro A9 c9 w9 o9 b9; have m9 := Lib.hid (m3.out.below b9 hs1); have f9 := m9.out.frozen 1; have y9 := m9.out.cell 1; have k9 := Lib.hid (hk2.out.to b9 (Nat.le_refl _)); replace o9 := Lib.hid o9; clear oL r5 b9 hk2 m3))
      go_roundw
      case rel => exact ⟨k + 1, by omega, by go_num, k9.out.set 1 _, A9, c9, m9.out.set_ 1 _, OR.setFar o9.out hs1 _⟩
      case measure => simp [intOf]; omega
    · obtain rfl : k = bs.length := by omega
      rw [List.take_length] at ho
      replace ho := Lib.hid ho
      have bo := Lib.hid bo
      have br := Lib.hid (hkb.blk b2.out (by omega))
      have hWr := Lib.hid hWr
      clear b1 b2 b3 bs1 g1 hkb
      go_wp2_with (first
        | ((with_reducible refine wpList_isLoad 45 (.tmp 3) rfl ?_); refine wpList_load_row rfl 45 (.tmp 3) rfl (w.heap.size + 1 + 1) rfl 45 _ (0, 0) _ bo.out Try.underlying45 rfl (infofrom _ _ _ _ _ _) ?_)
        | ((with_reducible refine wpList_isStore 45 (.tmp 2) (.tmp 42) rfl ?_); refine wpList_store_blk rfl 45 (.tmp 2) (.tmp 42) rfl (w.heap.size + 1) _ rfl rfl 45 sigZ0 br.out (infofrom _ _ _ _ _ _) rfl (by simp [Value.oneCell']) ?_; intro w9 n9 k9 z9; replace n9 := Lib.hid n9; replace k9 := Lib.hid k9; replace z9 := Lib.hid z9))
      refine bodyPost_ret (results_cell_row Try.results15 _ _ (w.heap.size + 1) 45 _ (0, 0) _ rfl n9.out Try.underlying45 rfl (infofrom _ _ _ _ _ _)) rfl ?_
      exact ⟨A0, c0, rfl, OR.base_le (os_kb ho.out k9.out (by omega)) (by omega), keep_blk k9.out hWr.out (by omega)⟩
end Sg
end Go.Proofs.Ytcibngbgcnnjnaa

