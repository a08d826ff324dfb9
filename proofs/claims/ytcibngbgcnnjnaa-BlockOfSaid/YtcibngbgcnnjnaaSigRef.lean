/- The walks of the document's signatures: SignOf, Of, Same. No condition but sizes. -/
import Derived.Test.YtcibngbgcnnjnaaSigCopy
import Derived.Test.YtcibngbgcnnjnaaSigPut
import Derived.Test.YtcibngbgcnnjnaaBlkRef
import Derived.Test.YtcibngbgcnnjnaaRollWalk
import Derived.Test.YtcibngbgcnnjnaaMixRefOf
set_option linter.unusedVariables false
set_option linter.unusedSimpArgs false
namespace Go.Proofs.Ytcibngbgcnnjnaa
open Go Go.RowKit W Bl
namespace Sg
set_option maxRecDepth 100000 in
set_option maxHeartbeats 4000000 in
theorem refSignOf_any (l : List UInt8) (w : World) (hs : l.length ≤ 1000000) :
    Calls Try.prog 13 #[str l] w fun e w' => e = .returned (sV (sign l)) ∧ Gr w w' := by
  have b0 := Lib.hid (Blk.new w 40 #[.int .u32 0, .int .u64 0, .int .u64 0])
  have g0 := Lib.hid ((Gr.refl w).alloc (.cells #[.int .u32 0, .int .u64 0, .int .u64 0] 40))
  obtain ⟨x, hx⟩ : ∃ x, sign l = x := ⟨_, rfl⟩
  rw [hx]
  obtain ⟨a, b, d⟩ := x
  have ha : Roll.of l = a := congrArg (·.1) hx
  have hb : Mix.of l = (b, d) := congrArg (·.2) hx
  have hro := Lib.hid (fun w => Roll.refOf_any l w (by omega))
  have hmi := Lib.hid (fun w => Mix.refOf_any l w (by omega))
  rw [ha] at hro
  rw [hb] at hmi
  clear hx ha hb
  go_enter Try.func13, Try.ntmps13
  go_wp2_with fail
  go_at_call 31
  refine (hro.out _).mono ?_
  rintro e w1 ⟨rfl, rfl⟩
  clear hro
  go_wp2_with fail
  go_at_call 32
  refine (hmi.out _).mono ?_
  rintro e w2 ⟨rfl, g2⟩
  have b2 := Lib.hid (blk_more b0.out g2)
  have G2 := Lib.hid (Gr.trans g0.out g2)
  clear b0 g0 g2 hmi
  go_wp2_with (first
    | ((with_reducible refine wpList_isStore 40 (.tmp 2) (.tmp 7) rfl ?_); refine wpList_store_blk rfl 40 (.tmp 2) (.tmp 7) rfl w.heap.size #[.int .u32 (n32 a), .int .u64 (n64 b), .int .u64 (n64 d)] rfl rfl 40 #[.int .u32 0, .int .u64 0, .int .u64 0] b2.out (refSignInfo _ _ _) rfl (by simp [Value.oneCell']) ?_; intro w3 n3 k3 z3; have x0 := n3.cell 0; have x1 := n3.cell 1; have x2 := n3.cell 2; have G3 := Lib.hid (keep_new G2.out k3); clear G2 b2 n3 k3 z3))
  exact bodyPost_ret (v := sV (a, b, d)) (by simp [results, Try.results13, go_sem, x0, x1, x2]) rfl ⟨rfl, G3.out⟩
/-- Blocks as they are met. -/
theorem blk_full {l : List UInt8} {h k : Nat} (hh : 0 < h) (hk : k < count l.length h) : ((at_ l h k).length = h ∧ k < l.length / h) ∨ ((at_ l h k).length ≠ h ∧ (at_ l h k).length = l.length % h ∧ k = l.length / h ∧ 0 < l.length % h ∧ k + 1 = count l.length h) := by
  have h3 := (count_lt (n := l.length) hh).1 hk
  have h4 := Nat.div_add_mod l.length h
  rw [Nat.mul_comm] at h4
  have h5 := Nat.mod_lt l.length hh
  have h6 : (at_ l h k).length = min h (l.length - k * h) := by simp [at_]
  rcases Nat.lt_or_ge k (l.length / h) with h7 | h7
  · refine .inl ⟨?_, h7⟩
    have h8 : (k + 1) * h ≤ l.length / h * h := Nat.mul_le_mul_right _ h7
    rw [Nat.succ_mul] at h8
    omega
  · have e : k = l.length / h := by
      rcases Nat.lt_or_ge (l.length / h) k with h8 | h8
      · have h9 : (l.length / h + 1) * h ≤ k * h := Nat.mul_le_mul_right _ h8
        rw [Nat.succ_mul] at h9
        omega
      · omega
    have h8 : k * h = l.length / h * h := by rw [e]
    have h9 : 0 < l.length % h := by omega
    refine .inr ⟨by omega, by omega, e, h9, ?_⟩
    unfold count
    rw [if_pos h9, e]
def bsAt (l : List UInt8) (h k : Nat) : List Sign := (List.range (min k (l.length / h))).map fun i => sign (at_ l h i)
def tailAt (l : List UInt8) (h k : Nat) : Int := if l.length / h < k then ((l.length % h : Nat) : Int) else 0
def lastAt (l : List UInt8) (h k : Nat) : Sign := if l.length / h < k then sign (at_ l h (l.length / h)) else zero
theorem bsAt_len (l : List UInt8) (h k : Nat) : (bsAt l h k).length = min k (l.length / h) := by simp [bsAt]
theorem sig_end (l : List UInt8) (h : Nat) (hh : 0 < h) : bsAt l h (count l.length h) = full l h ∧ tailAt l h (count l.length h) = ((l.length % h : Nat) : Int) ∧ lastAt l h (count l.length h) = lastOf l h := by
  unfold bsAt tailAt lastAt full lastOf
  by_cases hm : 0 < l.length % h
  · have e : count l.length h = l.length / h + 1 := by unfold count; rw [if_pos hm]
    rw [e, if_pos (by omega), if_pos (by omega), if_pos hm, Nat.min_eq_right (by omega)]
    exact ⟨rfl, rfl, rfl⟩
  · have e : count l.length h = l.length / h := by unfold count; rw [if_neg hm]; rfl
    rw [e, if_neg (by omega), if_neg (by omega), if_neg hm, Nat.min_eq_right (by omega)]
    exact ⟨rfl, by omega, rfl⟩
theorem st_full {l : List UInt8} {h k : Nat} (hk : k < l.length / h) : bsAt l h (k + 1) = bsAt l h k ++ [sign (at_ l h k)] ∧ tailAt l h (k + 1) = 0 ∧ lastAt l h (k + 1) = zero ∧ tailAt l h k = 0 ∧ lastAt l h k = zero := by
  unfold bsAt tailAt lastAt
  rw [Nat.min_eq_left (by omega), Nat.min_eq_left (by omega), List.range_succ, if_neg (by omega), if_neg (by omega), if_neg (by omega), if_neg (by omega)]
  simp
theorem st_last {l : List UInt8} {h k : Nat} (hk : k = l.length / h) : bsAt l h (k + 1) = bsAt l h k ∧ tailAt l h (k + 1) = ((l.length % h : Nat) : Int) ∧ lastAt l h (k + 1) = sign (at_ l h k) ∧ tailAt l h k = 0 ∧ lastAt l h k = zero := by
  unfold bsAt tailAt lastAt
  rw [Nat.min_eq_right (by omega), Nat.min_eq_right (by omega), if_pos (by omega), if_pos (by omega), if_neg (by omega), if_neg (by omega), hk]
  exact ⟨rfl, rfl, rfl, rfl, rfl⟩
set_option maxRecDepth 100000 in
set_option maxHeartbeats 8000000 in
theorem refOf_any (l : List UInt8) (size : Int) (w : World) (hs : l.length ≤ 1000000) :
    Calls Try.prog 16 #[str l, .int .i64 size] w (OutG 40 w (sigOf l size)) := by
  have hho := Lib.hid (fun w => refHold_any size w)
  have hbl := Lib.hid (fun w => refBlocks_any l size w hs)
  obtain ⟨s, hsig⟩ : ∃ s, sigOf l size = s := ⟨_, rfl⟩
  rw [hsig]
  unfold sigOf at hsig
  have hh := hold_pos size
  generalize hold size = h at *
  replace hsig := Lib.hid hsig
  have b0 := Lib.hid ((Blk.new w 45 sigZ0).alloc (.cells (sigC (h : Int) (.slice none 0 0) 0 zero) 45))
  have b1 := Blk.new (w.alloc (.cells sigZ0 45)) 45 (sigC (h : Int) (.slice none 0 0) 0 zero)
  rw [World.size_alloc] at b1
  replace b1 := Lib.hid b1
  have g0 := Lib.hid (((Gr.refl w).alloc (.cells sigZ0 45)).alloc (.cells (sigC (h : Int) (.slice none 0 0) 0 zero) 45))
  go_enter Try.func16, Try.ntmps16
  go_wp2_with fail
  go_at_call 8
  refine (hho.out _).mono ?_
  rintro e w1 ⟨rfl, rfl⟩
  clear hho
  go_wp2_with fail
  go_at_call 11
  refine (hbl.out _).mono ?_
  rintro e w2 ⟨A2, c2, rfl, o2, g2⟩
  have d0 := Lib.hid (blk_more b0.out g2)
  have d1 := Lib.hid (blk_more b1.out g2)
  have G2 := Lib.hid (Gr.trans g0.out g2)
  have hs2 : w.heap.size + 1 + 1 ≤ w2.heap.size := by have := Below.size g2; simp only [World.size_alloc] at this; exact this
  have hob : w.heap.size + 1 < ((w.alloc (.cells sigZ0 45)).alloc (.cells (sigC (h : Int) (.slice none 0 0) 0 zero) 45)).heap.size := by simp
  have o2' := Lib.hid o2
  rw [blocks_len]
  rw [blocks_len] at o2'
  clear b0 b1 g0 g2 o2 hbl
  have hcl := count_le l.length h (by omega)
  have hcn := Lib.hid (fun k (hk : k < count l.length h) => blk_full (l := l) (h := h) (k := k) (by omega) hk)
  have hse := Lib.hid (sig_end l h (by omega))
  have hrs := Lib.hid (fun k w => refSignOf_any (at_ l h k) w (Nat.le_trans (at_len l h k) (by omega)))
  have hal := at_len l h
  go_wp2
  go_loopw [7] (fun i wr => ∃ k : Nat, k ≤ count l.length h ∧ i = .int .i64 (k : Int) ∧ Kb (w.heap.size + 1) w2 wr ∧ (∃ A0 c0, Blk wr (w.heap.size + 1) 45 (sigC (h : Int) (.slice A0 (bsAt l h k).length c0) (tailAt l h k) (lastAt l h k)) ∧ OS 40 wr w2.heap.size (.slice A0 (bsAt l h k).length c0) (bsAt l h k))) (fun i _ => count l.length h - (intOf i).toNat)
  case atStart => exact ⟨0, by omega, rfl, Kb.refl _ _, none, 0, d1.out, OS.nil_ _ _ _⟩
  case round =>
    obtain ⟨k, hk, rfl, hkb, A0, c0, bo, ho⟩ := hrel
    have hWw : w2.heap.size ≤ wr.heap.size := hkb.size
    have hWr : Below w.heap.size w wr := keep_blk (w := w) hkb G2.out (by omega)
    by_cases h' : k < count l.length h
    · obtain ⟨ad, u, hA, hlt, hu, e0⟩ := Reads.at_ (OR.reads (or_kb o2'.out hkb hob)) h'
      subst hA
      obtain rfl : u = str (at_ l h k) := by
        have : (blocks l h)[k]? = some (at_ l h k) := by rw [List.getElem?_eq_getElem (by rw [blocks_len]; exact h'), blocks_get]
        rw [List.getElem?_map, this] at hu
        exact (Option.some.inj hu).symm
      have hlt2 : (ad.add k).block < wr.heap.size := by rw [block_of_add]; exact hlt
      have hrk := Lib.hid (hrs.out k)
      have hak := hal k
      have bo := Lib.hid bo
      have hkb := Lib.hid hkb
      have hWr := Lib.hid hWr
      have bl := bsAt_len l h k
      have ho := Lib.hid ho
      have hu := Lib.hid hu
      clear hse hrs hal
      rcases hcn.out k h' with ⟨q1, q2⟩ | ⟨q1, q2, q3, q4, q5⟩
      · obtain ⟨t1, t2, t3, t4, t5⟩ := st_full q2
        have t1 := Lib.hid t1
        have t2 := Lib.hid t2
        have t3 := Lib.hid t3
        rw [t4, t5] at bo
        clear t4 t5 hcn q2
        have e5 : (((at_ l h k).length : Int) == (h : Int)) = true := by rw [q1]; simp
        replace q1 := Lib.hid q1
        generalize at_ l h k = B at *
        obtain ⟨n, hn⟩ : ∃ n, (bsAt l h k).length = n := ⟨_, rfl⟩
        unfold OS at ho
        rw [hn] at bo ho bl
        replace hn := Lib.hid hn
        have hnn : n ≤ 1000000 := by omega
        clear bl
        go_wp2
        refine region_grow (by kernel_rfl) (by kernel_rfl) ?_
        refine GW.mv rfl trivial (.inl rfl) (kn0 (t := 6) (c := .slice (some ad) (count l.length h) c2) (by kernel_rfl) rfl) (eqv_lasts _) ?_
        refine GW.mv rfl trivial (.inl rfl) (kn0 (t := 7) (c := .int .i64 (k : Int)) (by kernel_rfl) rfl) (eqv_lasts _) ?_
        refine GW.p2 (.pointer (some (ad.add k))) rfl trivial (kn (t := 20) (j := 0) (by kernel_rfl)) (kn (t := 21) (j := 1) (by kernel_rfl)) (fun ρ w' h1 h2 hg => by show ((Instr.indexAt 37 (ρ (.tmp 20)) (ρ (.tmp 21)) >>= fun v => pure (Next.value v)) : Sem Next).run Try.prog w' = _; rw [h1, h2, Sem.run_bind, run_idxR w' Try.underlying37 (size := 1) (by kernel_rfl) ad _ _ k h']; simp) ?_
        refine GW.p1 (str B) rfl trivial (kn (t := 22) (j := 2) (by kernel_rfl)) (fun ρ w' hρ hg => by simp [execOp, hρ, go_sem, (hg.cell (p := (ad.add k)) hlt2).trans e0]) ?_
        refine GW.lenS B rfl trivial rfl Try.underlying9 (kn (t := 23) (j := 3) (by kernel_rfl)) ?_
        refine GW.p1 (.pointer (some ⟨w.heap.size + 1, 0, none⟩)) rfl trivial (kn0 (t := 5) (c := .pointer (some ⟨w.heap.size + 1, 0, none⟩)) (by kernel_rfl) rfl) (fun ρ w' hρ hg => by simp [execOp, hρ, go_sem]) ?_
        refine GW.p1 (.int .i64 (h : Int)) rfl trivial (kn (t := 25) (j := 5) (by kernel_rfl)) (fun ρ w' hρ hg => by simp [execOp, hρ, go_sem, (hg.cell (p := ⟨w.heap.size + 1, 0, none⟩) bo.out.lt).trans (bo.out.cell 0)]) ?_
        refine GW.bin (.bool true) rfl trivial rfl (kn (t := 24) (j := 4) (by kernel_rfl)) (kn (t := 26) (j := 6) (by kernel_rfl)) (fun w' => by simp [go_sem, e5]) ?_
        refine GW.done (by simp) (by kernel_rfl) (fun w' hg_ => ?_)
        intro v0 _ v1 _ v2 _ v3 _ v4 _ v5 _ v6 _ v7 h7
        obtain rfl : v7 = (.bool true) := h7
        simp only [GFin, Act.put, List.setIfInBounds_toArray, List.set_cons_succ, List.set_cons_zero]
        have bo := Lib.hid (blk_more bo.out hg_)
        have e0 := (Below.cell hg_ hlt2).trans e0
        have hlt2 : (ad.add k).block < w'.heap.size := Nat.lt_of_lt_of_le hlt2 (Below.size hg_)
        have ho := Lib.hid (OR.below ho.out hg_)
        have hkb := Lib.hid (hkb.out.gr hg_)
        have hWw : w2.heap.size ≤ w'.heap.size := Nat.le_trans hWw (Below.size hg_)
        clear hg_
        rename_i wX
        go_wp2
        refine region_grow (by kernel_rfl) (by kernel_rfl) ?_
        refine GW.p1 (.pointer (some ⟨w.heap.size + 1, 1, none⟩)) rfl trivial (kn0 (t := 5) (c := .pointer (some ⟨w.heap.size + 1, 0, none⟩)) (by kernel_rfl) rfl) (fun ρ w' hρ hg => by simp [execOp, hρ, go_sem]) ?_
        refine GW.p1 (.slice A0 n c0) rfl trivial (kn (t := 28) (j := 0) (by kernel_rfl)) (fun ρ w' hρ hg => by simp [execOp, hρ, go_sem, (hg.cell (p := ⟨w.heap.size + 1, 1, none⟩) bo.out.lt).trans (bo.out.cell 1)]) ?_
        refine GW.mv rfl trivial (.inl rfl) (kn0 (t := 6) (c := .slice (some ad) (count l.length h) c2) (by kernel_rfl) rfl) (eqv_lasts _) ?_
        refine GW.mv rfl trivial (.inl rfl) (kn0 (t := 7) (c := .int .i64 (k : Int)) (by kernel_rfl) rfl) (eqv_lasts _) ?_
        refine GW.p2 (.pointer (some (ad.add k))) rfl trivial (kn (t := 30) (j := 2) (by kernel_rfl)) (kn (t := 31) (j := 3) (by kernel_rfl)) (fun ρ w' h1 h2 hg => by show ((Instr.indexAt 37 (ρ (.tmp 30)) (ρ (.tmp 31)) >>= fun v => pure (Next.value v)) : Sem Next).run Try.prog w' = _; rw [h1, h2, Sem.run_bind, run_idxR w' Try.underlying37 (size := 1) (by kernel_rfl) ad _ _ k h']; simp) ?_
        refine GW.p1 (str B) rfl trivial (kn (t := 32) (j := 4) (by kernel_rfl)) (fun ρ w' hρ hg => by simp [execOp, hρ, go_sem, (hg.cell (p := (ad.add k)) hlt2).trans e0]) ?_
        refine GW.call1 (eqv (sV (sign B))) rfl trivial rfl Try.func13 (by kernel_rfl) (by kernel_rfl) (eqv_lasts _) (kn (t := 33) (j := 5) (by kernel_rfl)) (fun v w' hg hv => ?_) ?_
        · obtain rfl : v = _ := hv
          refine (hrk.out w').mono ?_
          rintro e w9 ⟨rfl, g9⟩
          exact ⟨_, rfl, rfl, g9⟩
        refine GW.row1 (E := 40) #[.int .u32 (n32 (sign B).1), .int .u64 (n64 (sign B).2.1), .int .u64 (n64 (sign B).2.2)] rfl rfl trivial rfl (kn (t := 34) (j := 6) (by kernel_rfl)) (fun w => by kernel_rfl) ?_
        refine GW.tailT (m := 8) (by simp) (by kernel_rfl) (by kernel_rfl) (fun w' hg_ => ?_)
        intro v0 _ v1 h1 v2 _ v3 _ v4 _ v5 _ v6 _ v7 h7
        obtain rfl : v1 = (.slice A0 n c0) := h1
        simp only [GFin, List.take_succ_cons, List.take_zero, List.drop_succ_cons, List.drop_zero, Act.put, List.setIfInBounds_toArray, List.set_cons_succ, List.set_cons_zero]
        obtain ⟨A5, c5, rfl, r5⟩ := h7
        have oL := Lib.hid (OR.below ho.out hg_)
        have r5 := Lib.hid r5
        have m3 := Lib.hid (blk_more bo.out hg_)
        have hk2 := Lib.hid (hkb.out.gr hg_)
        have hw2 : w2.heap.size ≤ w'.heap.size := Nat.le_trans hWw (Below.size hg_)
        have hsn := Lib.hid (scs_append (bsAt l h k) [sign B])
        have hgb : w.heap.size + 1 < w2.heap.size := by omega
        clear ho hg_ e0 bo hWr hkb hlt
        go_wp2_with (first
          | ((with_reducible refine wpList_isApp (.tmp 29) (.tmp 35) 43 rfl ?_); refine wpList_append_rowsN (v := .slice A0 n c0) rfl (.tmp 29) (.tmp 35) 43 rfl Try.underlying43 refSignRow rfl (by exact oL.out) w'.heap.size A5 1 c5 (scs [sign B]) rfl (by exact r5.out) (scs_one_cell _) (by unfold maxLen; omega) (by omega) hw2 (scs (bsAt l h k ++ [sign B])) hsn.out (n + 1) rfl ?_; intro A9 c9 w9 o9 b9; have m9 := Lib.hid (m3.out.below b9 hgb); have f9 := m9.out.frozen 1; have y9 := m9.out.cell 1; have k9 := Lib.hid (hk2.out.to b9 (Nat.le_refl _)); replace o9 := Lib.hid o9; clear oL r5 b9 hk2 m3))
        go_roundw
        case rel =>
          refine ⟨k + 1, by omega, by go_num, k9.out.set 1 _, A9, c9, ?_, ?_⟩
          · rw [t1.out, t2.out, t3.out, List.length_append, hn.out, List.length_singleton]
            exact m9.out.set_ 1 _
          · rw [t1.out]
            unfold OS
            rw [List.length_append, hn.out, List.length_singleton]
            exact OR.setFar o9.out hgb _
        case measure => simp [intOf]; omega
      · obtain ⟨t1, t2, t3, t4, t5⟩ := st_last q3
        rw [← q2] at t2
        have t1 := Lib.hid t1
        have t2 := Lib.hid t2
        have t3 := Lib.hid t3
        rw [t4, t5] at bo
        clear t4 t5 hcn
        have e5 : (((at_ l h k).length : Int) == (h : Int)) = false := by simp; omega
        clear q1 q2 q4 q5
        replace q3 := Lib.hid q3
        generalize at_ l h k = B at *
        obtain ⟨n, hn⟩ : ∃ n, (bsAt l h k).length = n := ⟨_, rfl⟩
        rw [hn] at bo bl
        replace hn := Lib.hid hn
        clear bl
        go_wp2
        refine region_grow (by kernel_rfl) (by kernel_rfl) ?_
        refine GW.mv rfl trivial (.inl rfl) (kn0 (t := 6) (c := .slice (some ad) (count l.length h) c2) (by kernel_rfl) rfl) (eqv_lasts _) ?_
        refine GW.mv rfl trivial (.inl rfl) (kn0 (t := 7) (c := .int .i64 (k : Int)) (by kernel_rfl) rfl) (eqv_lasts _) ?_
        refine GW.p2 (.pointer (some (ad.add k))) rfl trivial (kn (t := 20) (j := 0) (by kernel_rfl)) (kn (t := 21) (j := 1) (by kernel_rfl)) (fun ρ w' h1 h2 hg => by show ((Instr.indexAt 37 (ρ (.tmp 20)) (ρ (.tmp 21)) >>= fun v => pure (Next.value v)) : Sem Next).run Try.prog w' = _; rw [h1, h2, Sem.run_bind, run_idxR w' Try.underlying37 (size := 1) (by kernel_rfl) ad _ _ k h']; simp) ?_
        refine GW.p1 (str B) rfl trivial (kn (t := 22) (j := 2) (by kernel_rfl)) (fun ρ w' hρ hg => by simp [execOp, hρ, go_sem, (hg.cell (p := (ad.add k)) hlt2).trans e0]) ?_
        refine GW.lenS B rfl trivial rfl Try.underlying9 (kn (t := 23) (j := 3) (by kernel_rfl)) ?_
        refine GW.p1 (.pointer (some ⟨w.heap.size + 1, 0, none⟩)) rfl trivial (kn0 (t := 5) (c := .pointer (some ⟨w.heap.size + 1, 0, none⟩)) (by kernel_rfl) rfl) (fun ρ w' hρ hg => by simp [execOp, hρ, go_sem]) ?_
        refine GW.p1 (.int .i64 (h : Int)) rfl trivial (kn (t := 25) (j := 5) (by kernel_rfl)) (fun ρ w' hρ hg => by simp [execOp, hρ, go_sem, (hg.cell (p := ⟨w.heap.size + 1, 0, none⟩) bo.out.lt).trans (bo.out.cell 0)]) ?_
        refine GW.bin (.bool false) rfl trivial rfl (kn (t := 24) (j := 4) (by kernel_rfl)) (kn (t := 26) (j := 6) (by kernel_rfl)) (fun w' => by simp [go_sem, e5]) ?_
        refine GW.done (by simp) (by kernel_rfl) (fun w' hg_ => ?_)
        intro v0 _ v1 _ v2 _ v3 _ v4 _ v5 _ v6 _ v7 h7
        obtain rfl : v7 = (.bool false) := h7
        simp only [GFin, Act.put, List.setIfInBounds_toArray, List.set_cons_succ, List.set_cons_zero]
        have bo := Lib.hid (blk_more bo.out hg_)
        have e0 := (Below.cell hg_ hlt2).trans e0
        have hlt2 : (ad.add k).block < w'.heap.size := Nat.lt_of_lt_of_le hlt2 (Below.size hg_)
        have ho := Lib.hid (OS.below ho.out hg_)
        have hkb := Lib.hid (hkb.out.gr hg_)
        have hWw : w2.heap.size ≤ w'.heap.size := Nat.le_trans hWw (Below.size hg_)
        have hgb : w.heap.size + 1 < w2.heap.size := by omega
        have y2 := bo.out.cell 2
        have f2 := bo.out.frozen 2
        clear hg_
        rename_i wX
        have hkV := Lib.hid (hkb.out.set 2 (.int .i64 (B.length : Int)))
        have boV := Lib.hid (bo.out.set_ 2 (.int .i64 (B.length : Int)))
        have hoV := Lib.hid (os_kb ho.out ((Kb.refl (w.heap.size + 1) w').set 2 (.int .i64 (B.length : Int))) hgb)
        obtain ⟨ad', u', hA', hlt', hu', e1⟩ := Reads.at_ (OR.reads (or_kb o2'.out hkV.out hob)) h'
        cases hA'
        obtain rfl : str B = u' := Option.some.inj (hu.out.symm.trans hu')
        clear hu hu' hlt hlt' hlt2 hWw bo ho hkb hWr
        go_wp2_with fail
        go_at_call 13
        refine (hrk.out _).mono ?_
        rintro e w7 ⟨rfl, g7⟩
        have b7 := blk_more boV.out g7
        have y3 := b7.cell 3
        have y4 := b7.cell 4
        have y5 := b7.cell 5
        have f3 := b7.frozen 3
        have f4 := b7.frozen 4
        have f5 := b7.frozen 5
        have b7 := Lib.hid b7
        have k7 := Lib.hid (hkV.out.gr g7)
        have o7 := Lib.hid (OS.below hoV.out g7)
        clear g7 boV hkV hoV e0 e1 y2 f2 hrk
        go_wp2
        go_roundw
        case rel =>
          refine ⟨k + 1, by omega, by go_num, ((k7.out.set 3 _).set 4 _).set 5 _, A0, c0, ?_, ?_⟩
          · rw [t1.out, t2.out, t3.out, hn.out]
            exact ((b7.out.set_ 3 _).set_ 4 _).set_ 5 _
          · rw [t1.out, hn.out]
            have := os_kb o7.out ((((Kb.refl (w.heap.size + 1) w7).set 3 (.int .u32 (n32 (sign B).1))).set 4 (.int .u64 (n64 (sign B).2.1))).set 5 (.int .u64 (n64 (sign B).2.2))) hgb
            rw [hn.out] at this
            exact this
        case measure => simp [intOf]; omega
    · obtain rfl : k = count l.length h := by omega
      obtain ⟨t1, t2, t3⟩ := hse.out
      rw [t1, t2, t3] at bo
      rw [t1] at ho
      have br := Lib.hid (hkb.blk d0.out (Nat.ne_of_lt (Nat.lt_succ_self _)))
      obtain ⟨bs, hbs⟩ : ∃ bs, full l h = bs := ⟨_, rfl⟩
      rw [hbs] at bo ho hsig
      have e := hsig.out
      obtain ⟨t, ht⟩ : ∃ t, ((l.length % h : Nat) : Int) = t := ⟨_, rfl⟩
      rw [ht] at bo e
      generalize lastOf l h = x at *
      have bo := Lib.hid bo
      have ho := Lib.hid ho
      have hWr := Lib.hid hWr
      obtain rfl : _ = s := e
      clear hsig hbs ht hse hcn hrs hal
      clear hkb
      go_wp2_with (first
        | ((with_reducible refine wpList_isLoad 45 (.tmp 5) rfl ?_); refine wpList_load_row rfl 45 (.tmp 5) rfl (w.heap.size + 1) rfl 45 _ (0, 0) _ bo.out Try.underlying45 rfl (refSigInfo _ _ _ _ _ _) ?_)
        | ((with_reducible refine wpList_isStore 45 (.tmp 4) (.tmp 50) rfl ?_); refine wpList_store_blk rfl 45 (.tmp 4) (.tmp 50) rfl w.heap.size _ rfl rfl 45 sigZ0 br.out (refSigInfo _ _ _ _ _ _) rfl (by simp [Value.oneCell']) ?_; intro w9 n9 k9 z9; replace n9 := Lib.hid n9; replace k9 := Lib.hid k9; replace z9 := Lib.hid z9))
      refine bodyPost_ret (results_cell_row Try.results16 _ _ w.heap.size 45 _ (0, 0) _ rfl n9.out Try.underlying45 rfl (refSigInfo _ _ _ _ _ _)) rfl ?_
      exact ⟨A0, c0, rfl, OR.base_le (os_kb ho.out k9.out (show w.heap.size < w2.heap.size by omega)) (by omega), keep_blk k9.out hWr.out (Nat.le_refl _)⟩
end Sg
end Go.Proofs.Ytcibngbgcnnjnaa

