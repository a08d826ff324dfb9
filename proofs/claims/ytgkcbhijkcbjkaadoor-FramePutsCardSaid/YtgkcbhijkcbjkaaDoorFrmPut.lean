/- The walks of frames: Alike, nums, Put. No condition but that the sums' table is laid. -/
import Derived.Test.YtgkcbhijkcbjkaaDoorFrmWalk
set_option linter.unusedVariables false
set_option linter.unusedSimpArgs false
namespace Go.Proofs.YtgkcbhijkcbjkaaDoor
open Go Go.RowKit W Vint Crc
namespace Fm
set_option maxHeartbeats 2000000 in
theorem alike_any (f g : Frm) (w : World) : Calls Tryd.prog 17 #[frmV f, frmV g] w fun e w' => e = .returned (.bool (alike f g)) ∧ Gr w w' := by
  have b1 := (Blk.new w 26 (fc f)).alloc (.cells (fc g) 26)
  have b2 := Blk.new (w.alloc (.cells (fc f) 26)) 26 (fc g)
  rw [World.size_alloc] at b2
  have g0 := Lib.hid (((Gr.refl w).alloc (.cells (fc f) 26)).alloc (.cells (fc g) 26))
  have bx := Lib.hid b1
  have by_ := Lib.hid b2
  clear b1 b2
  go_enter Tryd.func17, Tryd.ntmps17
  go_wp2
  refine region_grow (by kernel_rfl) (by kernel_rfl) ?_
  refine GW.p1 (frmV f) rfl trivial (kn0 (t := 2) (c := .pointer (some ⟨w.heap.size, 0, none⟩)) (by kernel_rfl) rfl) (fun ρ w' hρ hg => by simp [execOp, hρ, go_sem, (hg.cell (p := ⟨w.heap.size, 0, none⟩) bx.out.lt).trans (bx.out.cell 0), (hg.cell (p := ⟨w.heap.size, 1, none⟩) bx.out.lt).trans (bx.out.cell 1), (hg.cell (p := ⟨w.heap.size, 2, none⟩) bx.out.lt).trans (bx.out.cell 2), (hg.cell (p := ⟨w.heap.size, 3, none⟩) bx.out.lt).trans (bx.out.cell 3)]) ?_
  refine GW.call1 (eqv (.agg #[.int .u64 (n64 f.b), .int .u64 (n64 f.n)])) rfl trivial rfl Tryd.func37 (by kernel_rfl) (by kernel_rfl) (eqv_lasts _) (kn (t := 5) (j := 0) (by kernel_rfl)) (fun v w' hg hv => ?_) ?_
  · obtain rfl : v = _ := hv
    refine (at_any f w').mono ?_
    rintro e w9 ⟨rfl, hg9⟩
    exact ⟨_, rfl, rfl, hg9⟩
  refine GW.p1 (frmV g) rfl trivial (kn0 (t := 3) (c := .pointer (some ⟨w.heap.size + 1, 0, none⟩)) (by kernel_rfl) rfl) (fun ρ w' hρ hg => by simp [execOp, hρ, go_sem, (hg.cell (p := ⟨(w.heap.size + 1), 0, none⟩) by_.out.lt).trans (by_.out.cell 0), (hg.cell (p := ⟨(w.heap.size + 1), 1, none⟩) by_.out.lt).trans (by_.out.cell 1), (hg.cell (p := ⟨(w.heap.size + 1), 2, none⟩) by_.out.lt).trans (by_.out.cell 2), (hg.cell (p := ⟨(w.heap.size + 1), 3, none⟩) by_.out.lt).trans (by_.out.cell 3)]) ?_
  refine GW.call1 (eqv (.agg #[.int .u64 (n64 g.b), .int .u64 (n64 g.n)])) rfl trivial rfl Tryd.func37 (by kernel_rfl) (by kernel_rfl) (eqv_lasts _) (kn (t := 7) (j := 2) (by kernel_rfl)) (fun v w' hg hv => ?_) ?_
  · obtain rfl : v = _ := hv
    refine (at_any g w').mono ?_
    rintro e w9 ⟨rfl, hg9⟩
    exact ⟨_, rfl, rfl, hg9⟩
  refine GW.bin (.bool (alike f g)) rfl trivial rfl (kn (t := 6) (j := 1) (by kernel_rfl)) (kn (t := 8) (j := 3) (by kernel_rfl)) (fun w' => run_eql_place f g _ _ w') ?_
  refine GW.mv rfl trivial (.inr rfl) (kn (t := 9) (j := 4) (by kernel_rfl)) (eqv_lasts _) ?_
  refine GW.done (by simp) (by kernel_rfl) (fun w' hg => ?_)
  intro v0 _ v1 _ v2 _ v3 _ v4 _ v5 h5
  obtain rfl : v5 = (.bool (alike f g)) := h5
  simp only [GFin, Act.put, List.setIfInBounds_toArray, List.set_cons_succ, List.set_cons_zero]
  have G := Lib.hid (Gr.trans g0.out hg)
  go_wp2
  go_ret
  exact ⟨rfl, G.out⟩
def nb (l : List UInt64) : List UInt8 := l.flatMap fun n => num n.toNat
theorem nb_snoc (l : List UInt64) (k : Nat) (h : k < l.length) : nb (l.take (k + 1)) = nb (l.take k) ++ num (l[k]).toNat := by
  unfold nb
  rw [List.take_succ_eq_append_getElem h, List.flatMap_append]
  simp
theorem nb_le (l : List UInt64) : (nb l).length ≤ l.length * 10 := by
  induction l with
  | nil => simp [nb]
  | cons a l ih =>
    have a3 : (num a.toNat).length ≤ 10 := num_length 9 _ (Nat.lt_of_lt_of_le a.toNat_lt (by decide))
    unfold nb at ih ⊢
    rw [List.flatMap_cons, List.length_append, List.length_cons]
    omega
set_option maxHeartbeats 2000000 in
theorem nums_any (A : Option Addr) (c : Nat) (l : List UInt64) (w : World) (hl : Reads w w.heap.size 1 A l.length (l.map fun x => .int .u64 (n64 x))) (hk : l.length ≤ 1000) :
    Calls Tryd.prog 34 #[.slice A l.length c] w (Out 5 w (nb l)) := by
  have hl' := Lib.hid hl
  clear hl
  go_enter Tryd.func34, Tryd.ntmps34
  go_wp2
  go_loopw [3, 5, 8] (fun b _ i wr => ∃ k : Nat, k ≤ l.length ∧ i = .int .i64 (k : Int) ∧ (∃ A0 c0, b = .slice A0 (nb (l.take k)).length c0 ∧ OB 5 wr w.heap.size (.slice A0 (nb (l.take k)).length c0) (nb (l.take k))) ∧ Gr w wr) (fun _ _ i _ => l.length - (intOf i).toNat)
  case atStart => exact ⟨0, by omega, rfl, ⟨none, 0, rfl, OB.nil_⟩, Gr.refl w⟩
  case round =>
    obtain ⟨k, hk2, rfl, ⟨A0, c0, rfl, ho⟩, hg⟩ := hrel
    by_cases h : k < l.length
    · obtain ⟨ad, u, hA, hlt, hu, hc⟩ := Reads.at_ (Reads.below hl'.out hg) h
      subst hA
      have hu' : u = .int .u64 (n64 l[k]) := by
        rw [List.getElem?_map, List.getElem?_eq_getElem h] at hu
        exact (Option.some.inj hu).symm
      subst hu'
      have hs := Lib.hid (nb_snoc l k h)
      have hle := nb_le (l.take k)
      rw [List.length_take] at hle
      generalize nb (l.take k) = P at *
      generalize l[k] = x at *
      have hc1 := Lib.hid (vnum_any A0 c0 P x wr (by omega) (OB.rb ho))
      have hg' := Lib.hid hg
      clear ho hg hu
      go_wp2_with fail
      refine hc1.out.mono ?_
      rintro e w1 ⟨A1, c1, rfl, o1, g1⟩
      have o1' := Lib.hid (OB.base_le o1 (Below.size hg'.out))
      have G1 := Lib.hid (Gr.trans hg'.out g1)
      rw [← hs.out] at o1' ⊢
      clear hc1 o1 g1 hg'
      go_wp2
      go_roundw
      case rel => exact ⟨k + 1, by omega, by go_num, ⟨A1, c1, rfl, o1'.out⟩, G1.out⟩
      case measure => simp [intOf]; omega
    · obtain rfl : k = l.length := by omega
      rw [List.take_length] at ho
      replace ho := Lib.hid ho
      rw [List.take_length]
      go_wp2
      go_ret
      exact ⟨A0, c0, rfl, ho.out, hg⟩
theorem refNum_nat (n : Nat) (h : n < 18446744073709551616) (w : World) : Calls Tryd.prog 35 #[.int .u64 (n64 (UInt64.ofNat n))] w fun e w' => e = .returned (str (num n)) ∧ Gr w w' := by
  have e : (UInt64.ofNat n).toNat = n := by rw [UInt64.toNat_ofNat']; exact Nat.mod_eq_of_lt h
  have := refNum_any (UInt64.ofNat n) w
  rwa [e] at this
set_option maxHeartbeats 4000000 in
theorem put_any (f : Frm) (w : World) (hd : f.d.length ≤ 9223372036854775807) (hH : Halves w) : Calls Tryd.prog 11 #[frmV f] w (Ret (isB (putF f)) w) := by
  have hro := Lib.hid (fun w => right_any f w hd)
  have bx := Blk.new w 26 (fc f)
  have g0 := Lib.hid ((Gr.refl w).alloc (.cells (fc f) 26))
  have hH' := hH.gr hH.lt g0.out
  clear hH
  cases hr : right f
  · rw [hr] at hro
    have hp : Hid (putF f = []) := Lib.hid (by unfold putF; rw [hr]; rfl)
    clear hr bx hH'
    go_enter Tryd.func11, Tryd.ntmps11
    go_wp2_with fail
    go_at_call 14
    refine (hro.out _).mono ?_
    rintro e w1 ⟨rfl, g1⟩
    have G1 := Lib.hid (Gr.trans g0.out g1)
    clear hro g0 g1
    go_wp2
    go_ret
    rw [hp.out]
    exact ⟨_, rfl, ⟨none, 0, rfl, by simp, by unfold maxLen; omega, RB.nil_⟩, G1.out⟩
  · rw [hr] at hro
    obtain ⟨h1, h2, h3⟩ := right_spec hr
    have hp : Hid (putF f = sealed (body f)) := Lib.hid (by unfold putF; rw [hr]; rfl)
    have hbl := body_le hr
    obtain ⟨k, b, n, d⟩ := f
    simp only at h1 h2 h3 hd
    obtain ⟨kk, rfl⟩ := Int.eq_ofNat_of_zero_le h1
    have hwk : (UInt64.ofNat kk).toNat = kk := by rw [UInt64.toNat_ofNat']; omega
    obtain ⟨L1, hL1⟩ : ∃ L1, nb [UInt64.ofNat kk, b, n] = L1 := ⟨_, rfl⟩
    obtain ⟨L2, hL2⟩ : ∃ L2, L1 ++ text d = L2 := ⟨_, rfl⟩
    have hb2 : body ⟨(kk : Int), b, n, d⟩ = L2 := by
      rw [← hL2, ← hL1]
      unfold body nb
      simp [hwk]
    rw [hb2] at hp hbl
    have hl1 : L1.length ≤ 30 := by rw [← hL1]; exact nb_le _
    replace hL1 := Lib.hid hL1
    replace hL2 := Lib.hid hL2
    replace bx := Lib.hid bx
    replace hH' := Lib.hid hH'
    clear hr hb2 hwk
    go_enter Tryd.func11, Tryd.ntmps11
    go_wp2_with fail
    go_at_call 14
    refine (hro.out _).mono ?_
    rintro e w1 ⟨rfl, g1⟩
    have G1 := Lib.hid (Gr.trans g0.out g1)
    replace bx := Lib.hid (blk_more bx.out g1)
    replace hH' := Lib.hid (hH'.out.gr hH'.out.lt g1)
    clear hro g0 g1
    go_wp2
    refine region_grow (by kernel_rfl) (by kernel_rfl) ?_
    refine GW.p1 (.pointer (some ⟨w.heap.size, 0, none⟩)) rfl trivial (kn0 (t := 1) (c := .pointer (some ⟨w.heap.size, 0, none⟩)) (by kernel_rfl) rfl) (fun ρ w' hρ hg => by simp [execOp, hρ, go_sem]) ?_
    refine GW.p1 (.int .i64 (kk : Int)) rfl trivial (kn (t := 6) (j := 0) (by kernel_rfl)) (fun ρ w' hρ hg => by simp [execOp, hρ, go_sem, (hg.cell (p := ⟨w.heap.size, 0, none⟩) bx.out.lt).trans (bx.out.cell 0)]) ?_
    refine GW.p1 (.int .u64 (n64 (UInt64.ofNat kk))) rfl trivial (kn (t := 7) (j := 1) (by kernel_rfl)) (fun ρ w' hρ hg => by simp [execOp, hρ, go_sem]) ?_
    refine GW.p1 (.pointer (some ⟨w.heap.size, 1, none⟩)) rfl trivial (kn0 (t := 1) (c := .pointer (some ⟨w.heap.size, 0, none⟩)) (by kernel_rfl) rfl) (fun ρ w' hρ hg => by simp [execOp, hρ, go_sem]) ?_
    refine GW.p1 (.int .u64 (n64 b)) rfl trivial (kn (t := 9) (j := 3) (by kernel_rfl)) (fun ρ w' hρ hg => by simp [execOp, hρ, go_sem, (hg.cell (p := ⟨w.heap.size, 1, none⟩) bx.out.lt).trans (bx.out.cell 1)]) ?_
    refine GW.p1 (.pointer (some ⟨w.heap.size, 2, none⟩)) rfl trivial (kn0 (t := 1) (c := .pointer (some ⟨w.heap.size, 0, none⟩)) (by kernel_rfl) rfl) (fun ρ w' hρ hg => by simp [execOp, hρ, go_sem]) ?_
    refine GW.p1 (.int .u64 (n64 n)) rfl trivial (kn (t := 11) (j := 5) (by kernel_rfl)) (fun ρ w' hρ hg => by simp [execOp, hρ, go_sem, (hg.cell (p := ⟨w.heap.size, 2, none⟩) bx.out.lt).trans (bx.out.cell 2)]) ?_
    refine GW.rowsN (E := 24) (size := 1) #[(0, .int .u64 (n64 (UInt64.ofNat kk))), (1, .int .u64 (n64 b)), (2, .int .u64 (n64 n))] #[.int .u64 (n64 (UInt64.ofNat kk)), .int .u64 (n64 b), .int .u64 (n64 n)] rfl (by omega) rfl trivial rfl ⟨rfl, (kn (t := 8) (j := 2) (by kernel_rfl)), rfl, (kn (t := 10) (j := 4) (by kernel_rfl)), rfl, (kn (t := 12) (j := 6) (by kernel_rfl)), trivial⟩ (fun w => by kernel_rfl) ?_
    refine GW.call1 (isB L1) rfl trivial rfl Tryd.func34 (by kernel_rfl) (by kernel_rfl) (isB_lasts _) (kn (t := 13) (j := 7) (by kernel_rfl)) (fun v w' hg hv => ?_) ?_
    · obtain ⟨A9, c9, rfl, r9⟩ := hv
      refine (nums_any A9 c9 [UInt64.ofNat kk, b, n] w' r9 (by simp)).mono ?_
      rw [hL1.out]
      rintro e w9 ⟨A8, c8, rfl, o8, hg8⟩
      exact ⟨_, rfl, isB_of_own o8, hg8⟩
    refine GW.p1 (.pointer (some ⟨w.heap.size, 3, none⟩)) rfl trivial (kn0 (t := 1) (c := .pointer (some ⟨w.heap.size, 0, none⟩)) (by kernel_rfl) rfl) (fun ρ w' hρ hg => by simp [execOp, hρ, go_sem]) ?_
    refine GW.p1 (.string ⟨d.toArray⟩) rfl trivial (kn (t := 15) (j := 9) (by kernel_rfl)) (fun ρ w' hρ hg => by simp [execOp, hρ, go_sem, (hg.cell (p := ⟨w.heap.size, 3, none⟩) bx.out.lt).trans (bx.out.cell 3)]) ?_
    refine GW.call2 (isB L2) rfl trivial rfl Tryd.func33 (by kernel_rfl) (by kernel_rfl) (isB_lasts _) (kn (t := 14) (j := 8) (by kernel_rfl)) (kn (t := 16) (j := 10) (by kernel_rfl)) (fun v u w' hg hv hu => ?_) ?_
    · obtain ⟨A9, c9, rfl, hc9, hm9, r9⟩ := hv
      obtain rfl : u = _ := hu
      refine (vtext_any A9 c9 L1 d w' (by omega) (by omega) r9).mono ?_
      rw [hL2.out]
      rintro e w9 ⟨A8, c8, rfl, o8, hg8⟩
      exact ⟨_, rfl, isB_of_own o8, hg8⟩
    refine GW.call1 (isB (sealed L2)) rfl trivial rfl Tryd.func32 (by kernel_rfl) (by kernel_rfl) (isB_lasts _) (kn (t := 17) (j := 11) (by kernel_rfl)) (fun v w' hg hv => ?_) ?_
    · obtain ⟨A9, c9, rfl, hc9, hm9, r9⟩ := hv
      refine (seal_any A9 c9 L2 w' (by omega) hc9 hm9 r9 (hH'.out.gr hH'.out.lt hg)).mono ?_
      rintro e w9 ⟨v9, rfl, o9, hg9⟩
      exact ⟨_, rfl, isB_of_own o9, hg9⟩
    refine GW.mv rfl trivial (.inr rfl) (kn (t := 18) (j := 12) (by kernel_rfl)) (isB_lasts _) ?_
    refine GW.done (by simp) (by kernel_rfl) (fun w' hg => ?_)
    intro v0 _ v1 _ v2 _ v3 _ v4 _ v5 _ v6 _ v7 _ v8 _ v9 _ v10 _ v11 _ v12 _ v13 h13
    simp only [GFin, Act.put, List.setIfInBounds_toArray, List.set_cons_succ, List.set_cons_zero]
    obtain ⟨A9, c9, rfl, hc9, hm9, r9⟩ := h13
    have G2 := Lib.hid (Gr.trans G1.out hg)
    go_wp2
    go_ret
    rw [hp.out]
    exact ⟨_, rfl, ⟨A9, c9, rfl, hc9, hm9, r9⟩, G2.out⟩
set_option maxHeartbeats 4000000 in
theorem refPut_any (f : Frm) (w : World) (hd : f.d.length ≤ 9223372036854775807) : Calls Tryd.prog 13 #[frmV f] w fun e w' => e = .returned (str (putF f)) ∧ Gr w w' := by
  have hro := Lib.hid (fun w => refRight_any f w hd)
  have bx := Blk.new w 30 (fc f)
  have g0 := Lib.hid ((Gr.refl w).alloc (.cells (fc f) 30))
  cases hr : right f
  · rw [hr] at hro
    have hp : Hid (putF f = []) := Lib.hid (by unfold putF; rw [hr]; rfl)
    clear hr bx
    go_enter Tryd.func13, Tryd.ntmps13
    go_wp2_with fail
    go_at_call 15
    refine (hro.out _).mono ?_
    rintro e w1 ⟨rfl, g1⟩
    have G1 := Lib.hid (Gr.trans g0.out g1)
    clear hro g0 g1
    go_wp2
    go_ret
    rw [hp.out]
    exact ⟨rfl, G1.out⟩
  · rw [hr] at hro
    obtain ⟨h1, h2, h3⟩ := right_spec hr
    have hp : Hid (putF f = sealed (body f)) := Lib.hid (by unfold putF; rw [hr]; rfl)
    have hbl := body_le hr
    obtain ⟨k, b, n, d⟩ := f
    simp only at h1 h2 h3 hd
    obtain ⟨kk, rfl⟩ := Int.eq_ofNat_of_zero_le h1
    obtain ⟨L2, hL2⟩ : ∃ L2, num kk ++ num b.toNat ++ num n.toNat ++ text d = L2 := ⟨_, rfl⟩
    have hb2 : body ⟨(kk : Int), b, n, d⟩ = L2 := hL2
    rw [hb2] at hp hbl
    have a1 : (num kk).length ≤ 10 := num_length 9 _ (Nat.lt_of_lt_of_le (show kk < 256 by omega) (by decide))
    have a2 : (num b.toNat).length ≤ 10 := num_length 9 _ (Nat.lt_of_lt_of_le b.toNat_lt (by decide))
    have a3 : (num n.toNat).length ≤ 10 := num_length 9 _ (Nat.lt_of_lt_of_le n.toNat_lt (by decide))
    have a4 : (text d).length ≤ 131072 + 10 := by unfold text; rw [List.length_append]; have := num_length 9 d.length (Nat.lt_of_lt_of_le (show d.length < 131073 by omega) (by decide)); omega
    replace hL2 := Lib.hid hL2
    replace bx := Lib.hid bx
    clear hr hb2
    go_enter Tryd.func13, Tryd.ntmps13
    go_wp2_with fail
    go_at_call 15
    refine (hro.out _).mono ?_
    rintro e w1 ⟨rfl, g1⟩
    have G1 := Lib.hid (Gr.trans g0.out g1)
    replace bx := Lib.hid (blk_more bx.out g1)
    clear hro g0 g1
    go_wp2
    refine region_grow (by kernel_rfl) (by kernel_rfl) ?_
    refine GW.p1 (.pointer (some ⟨w.heap.size, 0, none⟩)) rfl trivial (kn0 (t := 1) (c := .pointer (some ⟨w.heap.size, 0, none⟩)) (by kernel_rfl) rfl) (fun ρ w' hρ hg => by simp [execOp, hρ, go_sem]) ?_
    refine GW.p1 (.int .i64 (kk : Int)) rfl trivial (kn (t := 6) (j := 0) (by kernel_rfl)) (fun ρ w' hρ hg => by simp [execOp, hρ, go_sem, (hg.cell (p := ⟨w.heap.size, 0, none⟩) bx.out.lt).trans (bx.out.cell 0)]) ?_
    refine GW.p1 (.int .u64 (n64 (UInt64.ofNat kk))) rfl trivial (kn (t := 7) (j := 1) (by kernel_rfl)) (fun ρ w' hρ hg => by simp [execOp, hρ, go_sem]) ?_
    refine GW.call1 (eqv (str (num kk))) rfl trivial rfl Tryd.func35 (by kernel_rfl) (by kernel_rfl) (eqv_lasts _) (kn (t := 8) (j := 2) (by kernel_rfl)) (fun v w' hg hv => ?_) ?_
    · obtain rfl : v = _ := hv
      refine (refNum_nat kk (by omega) w').mono ?_
      rintro e w9 ⟨rfl, hg9⟩
      exact ⟨_, rfl, rfl, hg9⟩
    refine GW.p1 (.pointer (some ⟨w.heap.size, 1, none⟩)) rfl trivial (kn0 (t := 1) (c := .pointer (some ⟨w.heap.size, 0, none⟩)) (by kernel_rfl) rfl) (fun ρ w' hρ hg => by simp [execOp, hρ, go_sem]) ?_
    refine GW.p1 (.int .u64 (n64 b)) rfl trivial (kn (t := 10) (j := 4) (by kernel_rfl)) (fun ρ w' hρ hg => by simp [execOp, hρ, go_sem, (hg.cell (p := ⟨w.heap.size, 1, none⟩) bx.out.lt).trans (bx.out.cell 1)]) ?_
    refine GW.call1 (eqv (str (num b.toNat))) rfl trivial rfl Tryd.func35 (by kernel_rfl) (by kernel_rfl) (eqv_lasts _) (kn (t := 11) (j := 5) (by kernel_rfl)) (fun v w' hg hv => ?_) ?_
    · obtain rfl : v = _ := hv
      refine (refNum_any b w').mono ?_
      rintro e w9 ⟨rfl, hg9⟩
      exact ⟨_, rfl, rfl, hg9⟩
    refine GW.cat (num kk) (num b.toNat) (by first | omega | (simp; done) | (simp; omega)) rfl trivial rfl (kn (t := 9) (j := 3) (by kernel_rfl)) (kn (t := 12) (j := 6) (by kernel_rfl)) ?_
    refine GW.p1 (.pointer (some ⟨w.heap.size, 2, none⟩)) rfl trivial (kn0 (t := 1) (c := .pointer (some ⟨w.heap.size, 0, none⟩)) (by kernel_rfl) rfl) (fun ρ w' hρ hg => by simp [execOp, hρ, go_sem]) ?_
    refine GW.p1 (.int .u64 (n64 n)) rfl trivial (kn (t := 14) (j := 8) (by kernel_rfl)) (fun ρ w' hρ hg => by simp [execOp, hρ, go_sem, (hg.cell (p := ⟨w.heap.size, 2, none⟩) bx.out.lt).trans (bx.out.cell 2)]) ?_
    refine GW.call1 (eqv (str (num n.toNat))) rfl trivial rfl Tryd.func35 (by kernel_rfl) (by kernel_rfl) (eqv_lasts _) (kn (t := 15) (j := 9) (by kernel_rfl)) (fun v w' hg hv => ?_) ?_
    · obtain rfl : v = _ := hv
      refine (refNum_any n w').mono ?_
      rintro e w9 ⟨rfl, hg9⟩
      exact ⟨_, rfl, rfl, hg9⟩
    refine GW.cat ((num kk) ++ (num b.toNat)) (num n.toNat) (by first | omega | (simp; done) | (simp; omega)) rfl trivial rfl (kn (t := 13) (j := 7) (by kernel_rfl)) (kn (t := 16) (j := 10) (by kernel_rfl)) ?_
    refine GW.p1 (.pointer (some ⟨w.heap.size, 3, none⟩)) rfl trivial (kn0 (t := 1) (c := .pointer (some ⟨w.heap.size, 0, none⟩)) (by kernel_rfl) rfl) (fun ρ w' hρ hg => by simp [execOp, hρ, go_sem]) ?_
    refine GW.p1 (.string ⟨d.toArray⟩) rfl trivial (kn (t := 18) (j := 12) (by kernel_rfl)) (fun ρ w' hρ hg => by simp [execOp, hρ, go_sem, (hg.cell (p := ⟨w.heap.size, 3, none⟩) bx.out.lt).trans (bx.out.cell 3)]) ?_
    refine GW.call1 (eqv (str (text d))) rfl trivial rfl Tryd.func36 (by kernel_rfl) (by kernel_rfl) (eqv_lasts _) (kn (t := 19) (j := 13) (by kernel_rfl)) (fun v w' hg hv => ?_) ?_
    · obtain rfl : v = _ := hv
      refine (refText_any d w' (by omega)).mono ?_
      rintro e w9 ⟨rfl, hg9⟩
      exact ⟨_, rfl, rfl, hg9⟩
    refine GW.cat (((num kk) ++ (num b.toNat)) ++ (num n.toNat)) (text d) (by first | omega | (simp; done) | (simp; omega)) rfl trivial rfl (kn (t := 17) (j := 11) (by kernel_rfl)) (kn (t := 20) (j := 14) (by kernel_rfl)) ?_
    refine GW.call1 (eqv (str (sealed L2))) rfl trivial rfl Tryd.func9 (by kernel_rfl) (by kernel_rfl) (eqv_lasts _) (kn (t := 21) (j := 15) (by kernel_rfl)) (fun v w' hg hv => ?_) ?_
    · obtain rfl : v = _ := hv
      rw [hL2.out]
      refine (refSeal_any L2 w' (by omega)).mono ?_
      rintro e w9 ⟨rfl, hg9⟩
      exact ⟨_, rfl, rfl, hg9⟩
    refine GW.mv rfl trivial (.inr rfl) (kn (t := 22) (j := 16) (by kernel_rfl)) (eqv_lasts _) ?_
    refine GW.done (by simp) (by kernel_rfl) (fun w' hg => ?_)
    intro v0 _ v1 _ v2 _ v3 _ v4 _ v5 _ v6 _ v7 _ v8 _ v9 _ v10 _ v11 _ v12 _ v13 _ v14 _ v15 _ v16 _ v17 h17
    obtain rfl : v17 = (str (sealed L2)) := h17
    simp only [GFin, Act.put, List.setIfInBounds_toArray, List.set_cons_succ, List.set_cons_zero]
    have G2 := Lib.hid (Gr.trans G1.out hg)
    go_wp2
    go_ret
    rw [hp.out]
    exact ⟨rfl, G2.out⟩
end Fm
end Go.Proofs.YtgkcbhijkcbjkaaDoor
