/- The walks of the sums of 32 bits, second part: sealing and opening by the reference, opening by the program. No condition but sizes. -/
import Derived.Test.YtgkcbhijkcbjkaaDoorCrcWalk
set_option linter.unusedVariables false
set_option linter.unusedSimpArgs false
namespace Go.Proofs.YtgkcbhijkcbjkaaDoor
open Go Go.RowKit W
namespace Crc

def downs : Nat → UInt32 → UInt32
  | 0, n => n
  | k + 1, n => downs k n / 256
theorem downs_byte (n : UInt32) : ∀ k, k < 4 → (downs k n % 256).toUInt8 = byt n k := by
  have f : ∀ x : UInt32, (x % 256).toUInt8 = x.toUInt8 := fun x => by
    apply UInt8.toNat_inj.1
    simp
  intro k hk
  rw [f]
  apply UInt8.toNat_inj.1
  match k, hk with
  | 0, _ => rfl
  | 1, _ => rfl
  | 2, _ => simp [downs, byt]; omega
  | 3, _ => simp [downs, byt]; omega

set_option maxHeartbeats 400000 in
theorem refBytes_any (n : UInt32) (w : World) :
    Calls Tryd.prog 30 #[.int .u32 (n32 n)] w fun e w' => e = .returned (str (bytes n)) ∧ Below w.heap.size w w' := by
  have hmk : ∀ w, (Instr.makeSlice 22 (.int .i64 4) (.int .i64 4)).run Tryd.prog w = .ok (.slice (some ⟨w.heap.size, 0, none⟩) 4 4) (w.alloc (.cells #[.int .u8 0, .int .u8 0, .int .u8 0, .int .u8 0] 5)) := fun _ => by kernel_rfl
  go_enter Tryd.func30, Tryd.ntmps30
  go_wp2
  clear hmk
  go_loopw [0, 4] (fun v i wr => ∃ (k : Nat) (cs : Array Value), k ≤ 4 ∧ i = .int .i64 k ∧ v = .int .u32 (n32 (downs k n)) ∧ cs.size = 4 ∧ Blk wr w.heap.size 5 cs ∧ (∀ j, j < k → cs[j]? = some (bv (downs j n % 256).toUInt8)) ∧ Below w.heap.size w wr) (fun _ i _ => 4 - (intOf i).toNat)
  case atStart =>
    exact ⟨0, #[.int .u8 0, .int .u8 0, .int .u8 0, .int .u8 0], by omega, rfl, rfl, rfl, Blk.new w 5 _, fun j hj => absurd hj (by omega), (Below.refl _ _).alloc (by simp) _⟩
  case round =>
    obtain ⟨k, cs, hk, rfl, rfl, hs, hB, hc, hb⟩ := hrel
    by_cases h : k < 4
    · have hcell := hB.cell k
      rw [Array.getElem?_eq_getElem (show k < cs.size by omega)] at hcell
      have hfr := hB.frozen k
      have hd := Lib.hid (show downs (k + 1) n = downs k n / 256 from rfl)
      have hc' := Lib.hid hc
      clear hc
      go_wp2
      go_roundw
      case rel =>
        refine ⟨k + 1, _, by omega, by go_num, by rw [hd.out], ?_, hB.set_ k _, fun j hj => ?_, hb.setCell (by simp) _⟩
        · simpa using hs
        · by_cases hjk : j = k
          · subst hjk
            rw [Array.getElem?_setIfInBounds_self_of_lt (by omega)]
            rfl
          · rw [Array.getElem?_setIfInBounds_ne (by omega)]
            exact hc'.out j (by omega)
      case measure => simp [intOf]; omega
    · have hk4 : k = 4 := by omega
      subst hk4
      have hl : cs = (bvs (bytes n)).toArray := by
        apply Array.ext (by simpa [bvs_length, bytes] using hs)
        intro j h1 h2
        have hj : j < 4 := by omega
        have e := hc j hj
        rw [Array.getElem?_eq_getElem h1, downs_byte n j hj] at e
        have e' := Option.some.inj e
        rw [e']
        match j, hj with
        | 0, _ => rfl
        | 1, _ => rfl
        | 2, _ => rfl
        | 3, _ => rfl
      subst hl
      have hlen : (bytes n).length = 4 := rfl
      have hr := Lib.hid (RB.of_blk (B := w.heap.size + 1) hB (by omega))
      clear hB hc hs
      go_wp2_with (refine wpList_bytes_string rfl (.tmp 18) 22 9 5 rfl Tryd.underlying22 byteType.1 Tryd.underlying9 _ _ _ _ (bytes n) rfl hlen.symm hr.out ?_)
      go_ret
      exact ⟨rfl, hb⟩

theorem refSeal_any (l : List UInt8) (w : World) (hs : l.length ≤ 1099511627776) :
    Calls Tryd.prog 9 #[str l] w fun e w' => e = .returned (str (sealed l)) ∧ Below w.heap.size w w' := by
  have hc := Lib.hid (refSum_any l w hs)
  have hb := Lib.hid (refBytes_any (sum l) w)
  have hse := Lib.hid (show sealed l = l ++ bytes (sum l) from rfl)
  have hbl : (bytes (sum l)).length ≤ 4 := Nat.le_refl 4
  generalize bytes (sum l) = b at *
  generalize sum l = x at *
  go_enter Tryd.func9, Tryd.ntmps9
  go_wp2_with (first
    | (go_at_call 31; refine hc.out.mono ?_; rintro e w' ⟨rfl, rfl⟩)
    | (go_at_call 30; refine hb.out.mono ?_; rintro e w1 ⟨rfl, hb1⟩))
  go_ret
  exact ⟨by rw [hse.out]; rfl, hb1⟩

theorem opened_short {l : List UInt8} (h : l.length < 4) : opened l = ([], 4) := if_pos h
theorem opened_bad {l : List UInt8} (h : ¬ l.length < 4) (h2 : bytes (sum (l.take (l.length - 4))) ≠ l.drop (l.length - 4)) : opened l = ([], 12) := by
  unfold opened
  rw [if_neg h, if_neg]
  intro e
  apply h2
  have := congrArg (List.drop (l.take (l.length - 4)).length) e
  rw [sealed, List.drop_left] at this
  rw [this, List.length_take, Nat.min_eq_left (by omega)]
theorem opened_good {l : List UInt8} (h : ¬ l.length < 4) (h2 : bytes (sum (l.take (l.length - 4))) = l.drop (l.length - 4)) : opened l = (l.take (l.length - 4), 0) := by
  unfold opened
  rw [if_neg h, if_pos]
  rw [sealed, h2, List.take_append_drop]

/-- Four bytes as an array's cells. -/
def aggL (l : List UInt8) : Value := .agg (bvs l).toArray
theorem agg4_eq (n : UInt32) : agg4 n = aggL (bytes n) := rfl
def isP4 (l : List UInt8) : Ass := fun v w => ∃ ad, v = .pointer (some ad) ∧ RB w w.heap.size (some ad) l
theorem isP4_lasts (l : List UInt8) : Lasts (isP4 l) := fun _ _ _ hg ⟨ad, hv, hr⟩ => ⟨ad, hv, (hr.below hg).more hg.size⟩
theorem one_ne_zero' : ¬ ((1 : Nat) = 0) := by omega
theorem four {l : List UInt8} (h : l.length = 4) : ∃ a b c d, l = [a, b, c, d] := by
  match l, h with
  | [a, b, c, d], _ => exact ⟨a, b, c, d, rfl⟩
theorem nums_inj (l m : List UInt8) : (l.map n8 == m.map n8) = (l == m) := by
  rw [Bool.eq_iff_iff, beq_iff_eq, beq_iff_eq]
  exact ⟨fun h => (List.map_inj_right (fun x y e => by have := n8_inj x y; rw [← this]; exact e)).1 h, fun h => by rw [h]⟩
theorem aggL_nums (l : List UInt8) : aggL l = .agg ((l.map n8).map (Value.int .u8)).toArray := by
  unfold aggL bvs
  rw [List.map_map]
  rfl
theorem byteInfo : ∃ i, Tryd.prog.info? 5 = some i ∧ i.zero = some (.int .u8 0) ∧ i.size = 1 ∧ i.bytes = 1 := by
  obtain ⟨i, h1, h2, h3, h4⟩ := info_parts byteType.2
  exact ⟨i, h1, h2, h3, h4⟩
theorem neq_agg (l m : List UInt8) (hl : l.length = 4) (hm : m.length = 4) (x y : Operand) (w : World) :
    (do eqGuard .neq 74 x y (aggL l) (aggL m); binOp .neq 74 (aggL l) (aggL m) : Sem Value).run Tryd.prog w = .ok (.bool (!(l == m))) w := by
  obtain ⟨i, hi, _⟩ := byteInfo
  rw [aggL_nums, aggL_nums, (run_binOp_ints w Tryd.underlying74 byteType.1 hi (by kernel_rfl) (by kernel_rfl) (l.map n8) (m.map n8) (by simpa using hl) (by simpa using hm) x y).2, nums_inj]

set_option maxHeartbeats 800000 in
theorem open_any (A : Option Addr) (c : Nat) (l : List UInt8) (w : World) (hs : l.length ≤ 1099511627776) (hc : l.length ≤ c) (hm : c ≤ maxLen) (hr : RB w w.heap.size A l) (hH : Halves w) :
    Calls Tryd.prog 19 #[.slice A l.length c] w fun e w' => ∃ v, e = .returned (.tuple #[v, .int .i64 (opened l).2]) ∧ OB 5 w' w.heap.size v (opened l).1 ∧ Below w.heap.size w w' := by
  by_cases h4 : l.length < 4
  · have hop := Lib.hid (opened_short h4)
    go_enter Tryd.func19, Tryd.ntmps19
    go_wp2
    go_ret2
    rw [hop.out]
    exact ⟨_, rfl, OB.nil_, Below.refl _ _⟩
  · have hn : ((l.length - 4 : Nat) : Int) = (l.length : Int) - 4 := by omega
    obtain ⟨i0, hi0, hz0, hz1, hz2⟩ := byteInfo
    have hk := Lib.hid (hn)
    clear hn
    obtain ⟨j0, hj0, hj2, hj1, _⟩ := info_parts (show (Tryd.prog.info? 22).map (fun i => (i.zero, i.size, i.bytes)) = some (some (.slice none 0 0), 1, 24) by kernel_rfl)
    go_enter Tryd.func19, Tryd.ntmps19
    go_wp2
    refine region_grow (by kernel_rfl) (by kernel_rfl) ?_
    refine GW.mv rfl trivial (.inl rfl) (kn0' (c := .slice A l.length c) (by kernel_rfl) rfl (isB_lasts l) ⟨A, c, rfl, hc, hm, hr⟩) (isB_lasts l) ?_
    refine GW.mv rfl trivial (.inl rfl) (kn0 (c := .int .i64 ((l.length - 4 : Nat) : Int)) (by kernel_rfl) (by rw [hk.out]; rfl)) (eqv_lasts _) ?_
    refine GW.shi l .i64 (l.length - 4) rfl trivial rfl Tryd.underlying22 hi0 (kn (j := 0) (by kernel_rfl)) (kn (j := 1) (by kernel_rfl)) (by omega) ?_
    refine GW.one (l.take (l.length - 4)) rfl trivial rfl Tryd.underlying87 hj0 hj1 hj2 (kn (j := 2) (by kernel_rfl)) ?_
    refine GW.call1 (eqv (.int .u32 (n32 (sum (l.take (l.length - 4)))))) rfl trivial rfl Tryd.func39 (by kernel_rfl) (by kernel_rfl) (eqv_lasts _) (kn (j := 3) (by kernel_rfl)) (fun v w' hg hv => ?_) ?_
    · refine (sum_any [l.take (l.length - 4)] v w' hv (by simp) (by intro x hx; simp at hx; subst hx; simp; omega) (hH.gr hH.lt hg)).mono ?_
      rintro e w2 ⟨rfl, rfl⟩
      exact ⟨_, rfl, by simp [eqv], Gr.refl _⟩
    refine GW.call1 (eqv (aggL (bytes (sum (l.take (l.length - 4)))))) rfl trivial rfl Tryd.func38 (by kernel_rfl) (by kernel_rfl) (eqv_lasts _) (kn (j := 4) (by kernel_rfl)) (fun v w' hg hv => ?_) ?_
    · obtain rfl : v = _ := hv
      refine (bytes_any _ w').mono ?_
      rintro e w2 ⟨rfl, hb⟩
      exact ⟨_, rfl, agg4_eq _, hb⟩
    refine GW.mv rfl trivial (.inl rfl) (kn0' (c := .slice A l.length c) (by kernel_rfl) rfl (isB_lasts l) ⟨A, c, rfl, hc, hm, hr⟩) (isB_lasts l) ?_
    refine GW.mv rfl trivial (.inl rfl) (kn0 (c := .int .i64 ((l.length - 4 : Nat) : Int)) (by kernel_rfl) (by rw [hk.out]; rfl)) (eqv_lasts _) ?_
    refine GW.slo l .i64 (l.length - 4) rfl trivial rfl Tryd.underlying22 hi0 hz1 (kn (j := 6) (by kernel_rfl)) (kn (j := 7) (by kernel_rfl)) (by omega) ?_
    refine GW.via (x := .tmp 18) (Instr.arrayAt 74) (isP4 (l.drop (l.length - 4))) rfl trivial (fun _ => rfl) (kn (j := 8) (by kernel_rfl)) (isP4_lasts _) ?_ ?_
    · rintro v w' hg ⟨A', c', hv, _, _, hr'⟩
      have hd4 : (l.drop (l.length - 4)).length = 4 := by rw [List.length_drop]; omega
      rw [hd4] at hv
      obtain ⟨ad, rfl, _, _⟩ := hr'.at_ (k := 0) (by omega)
      refine ⟨.pointer (some ad), w', ?_, Gr.refl _, ad, rfl, hr'⟩
      subst hv
      simp [Instr.arrayAt, run_underlying Tryd.underlying74]
    refine GW.via (x := .tmp 19) (Instr.loadAt 74) (eqv (aggL (l.drop (l.length - 4)))) rfl trivial (fun _ => rfl) (kn (j := 9) (by kernel_rfl)) (eqv_lasts _) ?_ ?_
    · rintro v w' hg ⟨ad, rfl, hr'⟩
      have hd4 : (l.drop (l.length - 4)).length = 4 := by rw [List.length_drop]; omega
      obtain ⟨x0, x1, x2, x3, hx⟩ := four hd4
      rw [hx] at hr' ⊢
      obtain ⟨_, h0, _, c0⟩ := hr'.at_ (k := 0) (by simp)
      cases h0
      obtain ⟨_, h0, _, c1⟩ := hr'.at_ (k := 1) (by simp)
      cases h0
      obtain ⟨_, h0, _, c2⟩ := hr'.at_ (k := 2) (by simp)
      cases h0
      obtain ⟨_, h0, _, c3⟩ := hr'.at_ (k := 3) (by simp)
      cases h0
      have c0' : w'.cell? ad = some (.int .u8 (n8 x0)) := by simpa [Addr.add] using c0
      refine ⟨aggL [x0, x1, x2, x3], w', ?_, Gr.refl _, rfl⟩
      simp only [List.getElem_cons_zero, List.getElem_cons_succ, Addr.add, Nat.reduceEqDiff, if_false, one_ne_zero'] at c1 c2 c3
      simp [go_sem, aggL, bvs, c0', c1, c2, c3]
    refine GW.bin (.bool (!(bytes (sum (l.take (l.length - 4))) == l.drop (l.length - 4)))) rfl trivial rfl (kn (j := 5) (by kernel_rfl)) (kn (j := 10) (by kernel_rfl)) (fun w' => neq_agg (bytes (sum (l.take (l.length - 4)))) (l.drop (l.length - 4)) rfl (by rw [List.length_drop]; omega) _ _ w') ?_
    refine GW.done (by simp) (by kernel_rfl) (fun w' hg => ?_)
    intro v0 _ v1 _ v2 _ v3 _ v4 _ v5 _ v6 _ v7 _ v8 _ v9 _ v10 _ v11 h11
    obtain rfl : v11 = .bool (!(bytes (sum (l.take (l.length - 4))) == l.drop (l.length - 4))) := h11
    simp only [GFin, Act.put, List.setIfInBounds_toArray, List.set_cons_succ, List.set_cons_zero]
    by_cases hq : bytes (sum (l.take (l.length - 4))) = l.drop (l.length - 4)
    · have hop := Lib.hid (opened_good h4 hq)
      have hq' : (!(bytes (sum (l.take (l.length - 4))) == l.drop (l.length - 4))) = false := by simp [hq]
      rw [hq']
      clear hq hq'
      have hr2 := Lib.hid (hr.below hg)
      have hown0 := Lib.hid (OB.made (E := 5) (base := w.heap.size) w' hg.size)
      have hr3 := Lib.hid (hr2.out.alloc (o := .cells #[] 5) hg.size)
      have hb3 := Lib.hid (Below.alloc hg hg.size (.cells #[] 5))
      clear hr hg hH
      go_wp2_with (refine wpList_append_bytes _ rfl (.tmp 22) (.tmp 25) 22 rfl w.heap.size 5 Tryd.underlying22 byteType _ [] rfl (by exact hown0.out) w.heap.size _ _ _ (l.take (l.length - 4)) rfl (by simp) (by exact hr3.out.take (by omega)) (by simp; omega) (by simp; have := hb3.out.size; simp at this; omega) (l.take (l.length - 4)) rfl (l.length - 4) (by simp) ?_; intro A1 c1 w3 hown1 hbw1)
      go_ret2
      rw [hop.out]
      exact ⟨_, rfl, hown1, hb3.out.trans hbw1⟩
    · have hop := Lib.hid (opened_bad h4 hq)
      have hq' : (!(bytes (sum (l.take (l.length - 4))) == l.drop (l.length - 4))) = true := by simp [hq]
      rw [hq']
      clear hq hq' hr hH
      go_wp2
      go_ret2
      rw [hop.out]
      exact ⟨_, rfl, OB.nil_, hg⟩

set_option maxHeartbeats 400000 in
theorem refOpen_any (l : List UInt8) (w : World) (hs : l.length ≤ 1099511627776) :
    Calls Tryd.prog 25 #[str l] w fun e w' => e = .returned (.tuple #[str (opened l).1, .int .i64 (opened l).2]) ∧ Below w.heap.size w w' := by
  by_cases h4 : l.length < 4
  · have hop := Lib.hid (opened_short h4)
    go_enter Tryd.func25, Tryd.ntmps25
    go_wp2
    go_ret2
    rw [hop.out]
    exact ⟨rfl, Below.refl _ _⟩
  · have hcall := Lib.hid (refSeal_any (l.take (l.length - 4)) w (by rw [List.length_take]; omega))
    by_cases hq : sealed (l.take (l.length - 4)) = l
    · have hop : opened l = (l.take (l.length - 4), 0) := by unfold opened; rw [if_neg h4, if_pos hq]
      have hop' := Lib.hid hop
      have hq' : (sealed (l.take (l.length - 4)) == l) = true := by simpa using hq
      clear hop hq
      go_enter Tryd.func25, Tryd.ntmps25
      go_wp2_with (go_at_call 9; refine hcall.out.mono ?_; rintro e w' ⟨rfl, hb⟩)
      go_ret2
      rw [hop'.out]
      exact ⟨rfl, hb⟩
    · have hop : opened l = ([], 12) := by unfold opened; rw [if_neg h4, if_neg hq]
      have hop' := Lib.hid hop
      have hq' : (sealed (l.take (l.length - 4)) == l) = false := by simpa using hq
      clear hop hq
      go_enter Tryd.func25, Tryd.ntmps25
      go_wp2_with (go_at_call 9; refine hcall.out.mono ?_; rintro e w' ⟨rfl, hb⟩)
      go_ret2
      rw [hop'.out]
      exact ⟨rfl, hb⟩
end Crc
end Go.Proofs.YtgkcbhijkcbjkaaDoor

