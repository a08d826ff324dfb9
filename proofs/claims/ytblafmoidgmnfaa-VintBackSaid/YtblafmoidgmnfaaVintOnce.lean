/- The walk of VintOnce: whatever the arguments, it returns true and writes nothing that was there. No condition. -/
import Derived.Test.YtblafmoidgmnfaaVintAwake
set_option linter.unusedVariables false
set_option linter.unusedSimpArgs false
namespace Go.Proofs.Ytblafmoidgmnfaa
open Go Go.RowKit W
namespace Vint
theorem ofNat_byte (c : UInt8) (h : 128 ≤ c.toNat) : UInt8.ofNat (c.toNat % 128 + 128) = c := by
  apply UInt8.toNat_inj.1
  rw [UInt8.toNat_ofNat']
  have := c.toNat_lt
  omega
/-- What is read as a number is the bytes of just that number, and what stands behind them. -/
theorem scan_back (l : List UInt8) (most : Nat) (k : Nat) : ∀ i n, 10 - i ≤ k → (scan l most i n).1 = 0 → ∃ m, (scan l most i n).2.1 = n + 128 ^ i * m ∧ l.drop i = num m ++ l.drop (scan l most i n).2.2 ∧ (0 < i → 0 < m) := by
  induction k with
  | zero =>
    intro i n hk h
    rw [scan, dif_neg (by omega)] at h
    cases h
  | succ k ih =>
    intro i n hk h
    by_cases h10 : i < 10
    · by_cases hl : l.length ≤ i
      · rw [scan, dif_pos h10, if_pos hl] at h; cases h
      · have hli : i < l.length := by omega
        have hd : l.getD i 0 = l[i] := by simp [List.getD, hli]
        by_cases h9 : i = 9 ∧ 1 < (l[i]).toNat
        · rw [scan, dif_pos h10, if_neg hl, hd, if_pos h9] at h; cases h
        · rw [scan_step h10 hli h9] at h ⊢
          have hdrop : l.drop i = l[i] :: l.drop (i + 1) := List.drop_eq_getElem_cons hli
          by_cases h128 : 128 ≤ (l[i]).toNat
          · rw [if_pos h128] at h ⊢
            obtain ⟨m, h1, h2, h3⟩ := ih _ _ (by omega) h
            have hm := h3 (by omega)
            refine ⟨(l[i]).toNat % 128 + 128 * m, ?_, ?_, fun _ => by omega⟩
            · rw [h1, Nat.pow_succ, Nat.mul_add, Nat.mul_assoc, Nat.add_assoc]
            · have hnb : ¬ (l[i]).toNat % 128 + 128 * m < 128 := by omega
              have e1 : ((l[i]).toNat % 128 + 128 * m) % 128 = (l[i]).toNat % 128 := by omega
              have e2 : ((l[i]).toNat % 128 + 128 * m) / 128 = m := by omega
              rw [num_big hnb, e1, e2, ofNat_byte _ h128, hdrop, h2]
              rfl
          · rw [if_neg h128] at h ⊢
            by_cases h0 : (l[i]).toNat = 0 ∧ 0 < i
            · rw [if_pos h0] at h; cases h
            · rw [if_neg h0] at h ⊢
              by_cases hm : most < n + 128 ^ i * ((l[i]).toNat % 128)
              · rw [if_pos hm] at h; cases h
              · rw [if_neg hm]
                refine ⟨(l[i]).toNat, ?_, ?_, fun h => by omega⟩
                · show n + 128 ^ i * ((l[i]).toNat % 128) = _
                  rw [Nat.mod_eq_of_lt (by omega)]
                · show l.drop i = num (l[i]).toNat ++ l.drop (i + 1)
                  rw [num_small (by omega), hdrop]
                  simp
    · rw [scan, dif_neg h10] at h; cases h
theorem once (l : List UInt8) (most : Nat) (h : ended (get (l, 0) most).1 = 0) : num (get (l, 0) most).2 = l := by
  rw [get_ok] at h ⊢
  by_cases hs : (scan l most 0 0).1 = 0
  · rw [if_pos hs] at h
    have hl : (left l (scan l most 0 0)).length = 0 := by
      unfold ended at h
      by_cases h0 : 0 < (left l (scan l most 0 0)).length
      · rw [if_pos ⟨hs, h0⟩] at h; cases h
      · omega
    obtain ⟨m, h1, h2, _⟩ := scan_back l most 10 0 0 (by omega) hs
    unfold left at hl
    rw [if_pos hs] at hl
    rw [List.eq_nil_of_length_eq_zero hl, List.append_nil, List.drop_zero] at h2
    show num (scan l most 0 0).2.1 = l
    rw [h1, h2]
    congr 1
    omega
  · unfold ended at h
    rw [if_neg (fun h' => hs h'.1)] at h
    exact absurd h hs
set_option maxHeartbeats 2000000 in
theorem vintOnce_walk (A : Option Addr) (c : Nat) (l : List UInt8) (n m : UInt64) (w : World) (hc : l.length ≤ c) (hm : c ≤ maxLen) (hr : RB w w.heap.size A l) :
    Calls Try.prog 4 #[.slice A l.length c, .int .u64 (n64 n), .int .u64 (n64 m)] w (Ret (eqv (.bool true)) w) := by
  by_cases h20 : 20 < l.length
  · have haw := Lib.hid (awake_any w)
    clear hr hm
    go_enter Try.func4, Try.ntmps4
    go_wp2_with (go_at_call 8; refine haw.out.mono ?_; rintro e w' ⟨v, rfl, hv, hg⟩; obtain rfl : v = .bool true := hv)
    go_ret
    exact ⟨_, rfl, rfl, hg⟩
  · have hr' := Lib.hid hr
    have hm' := Lib.hid hm
    have hrd := Lib.hid (read_any A c l w (by omega) hr)
    clear hr hm
    go_enter Try.func4, Try.ntmps4
    go_wp2_with fail
    refine hrd.out.mono ?_
    rintro e w1 ⟨g, rfl, hgs, hR, hg1⟩
    have hx0 := Lib.hid (once l 18446744073709551615)
    have hle := get_le (l, 0) 18446744073709551615
    have hn := Lib.hid (by have h := rnum_any g (l, 0) 18446744073709551615 w1 hR; exact h : Calls Try.prog 12 #[.pointer (some ⟨g, 0, none⟩), .int .u64 18446744073709551615] w1 fun e w' => e = .returned (.int .u64 (n64 (UInt64.ofNat (get (l, 0) 18446744073709551615).2))) ∧ Rdr w' g (get (l, 0) 18446744073709551615).1 ∧ Kb g w1 w')
    generalize get (l, 0) 18446744073709551615 = p at *
    obtain ⟨s1, v⟩ := p
    have hxv : (UInt64.ofNat v).toNat = v := by rw [UInt64.toNat_ofNat']; exact Nat.mod_eq_of_lt (Nat.lt_succ_of_le hle)
    have hxn : ended s1 = 0 → num (UInt64.ofNat v).toNat = l := by rw [hxv]; exact hx0.out
    have hn' := Lib.hid (show Calls Try.prog 12 #[.pointer (some ⟨g, 0, none⟩), .int .u64 18446744073709551615] w1 fun e w' => e = .returned (.int .u64 (n64 (UInt64.ofNat v))) ∧ Rdr w' g s1 ∧ Kb g w1 w' from hn.out)
    generalize UInt64.ofNat v = x at *
    have hxn' := Lib.hid hxn
    have hg1' := Lib.hid hg1
    have hRl := Nat.le_of_lt hR.lt
    clear hrd hn hx0 hxn hxv hle hR hg1
    go_wp2_with fail
    refine hn'.out.mono ?_
    rintro e w2 ⟨rfl, hR2, hk2⟩
    have hg2 : Gr w w2 := Below.trans hg1'.out (Below.mono (hk2.below hRl) hgs)
    have hg2' := Lib.hid hg2
    have hR2' := Lib.hid hR2
    clear hn' hg1' hk2 hR2 hg2
    go_wp2
    have hr2 : RB w2 w2.heap.size A l := (hr'.out.below hg2'.out).more hg2'.out.size
    have hR2 := hR2'.out
    have hm := hm'.out
    by_cases he0 : ended s1 = 0
    · have he : (ended s1 : Int) = 0 := by omega
      have hx := hxn'.out he0
      refine region_grow (by kernel_rfl) (by kernel_rfl) ?_
      refine GW.mv rfl trivial (.inl rfl) (kn0 (t := 7) (c := .pointer (some ⟨g, 0, none⟩)) (by kernel_rfl) rfl) (eqv_lasts _) ?_
      refine GW.call1 (eqv (.int .i64 (ended s1 : Int))) rfl trivial rfl Try.func13 (by kernel_rfl) (by kernel_rfl) (eqv_lasts _) (kn (t := 17) (j := 0) (by kernel_rfl)) (fun v w' hg hv => ?_) ?_
      · obtain rfl : v = _ := hv
        refine (end_any g s1 w' (hR2.gr hg)).mono ?_
        rintro e w2 ⟨rfl, rfl⟩
        exact ⟨_, rfl, rfl, Gr.refl _⟩
      refine GW.bin (.bool true) rfl trivial rfl (kn (t := 18) (j := 1) (by kernel_rfl)) knc (fun w' => run_eql_int he _ _ _ w') ?_
      refine GW.mv rfl trivial (.inl rfl) (kn (t := 19) (j := 2) (by kernel_rfl)) (eqv_lasts _) ?_
      refine GW.mv rfl ⟨20, by kernel_rfl, by kernel_rfl, fun _ _ h => h⟩ (.inl rfl) (kn0 (t := 8) (c := .int .u64 (n64 x)) (by kernel_rfl) rfl) (eqv_lasts _) ?_
      refine GW.call2 (isB (num x.toNat)) rfl ⟨20, by kernel_rfl, by kernel_rfl, fun _ _ h => h⟩ rfl Try.func14 (by kernel_rfl) (by kernel_rfl) (isB_lasts _) knc (kn (t := 21) (j := 4) (by kernel_rfl)) (fun v u w' hg hv hu => ?_) ?_
      · obtain rfl : v = _ := hv
        obtain rfl : u = _ := hu
        refine (vnum_any none 0 [] x w' (by simp) RB.nil_).mono ?_
        rintro e w2 ⟨A3, c3, rfl, hown, hg2⟩
        exact ⟨_, rfl, isB_of_own hown, hg2⟩
      refine GW.bs (num x.toNat) rfl ⟨20, by kernel_rfl, by kernel_rfl, fun _ _ h => h⟩ rfl Try.underlying22 byteType.1 Try.underlying9 (kn (t := 22) (j := 5) (by kernel_rfl)) ?_
      refine GW.mv rfl ⟨20, by kernel_rfl, by kernel_rfl, fun _ _ h => h⟩ (.inl rfl) (kn0' (t := 0) (c := .slice A l.length c) (by kernel_rfl) rfl (isB_lasts l) (⟨A, c, rfl, hc, hm, hr2⟩)) (isB_lasts l) ?_
      refine GW.bs (l) rfl ⟨20, by kernel_rfl, by kernel_rfl, fun _ _ h => h⟩ rfl Try.underlying22 byteType.1 Try.underlying9 (kn (t := 24) (j := 7) (by kernel_rfl)) ?_
      refine GW.bin (.bool false) rfl ⟨20, by kernel_rfl, by kernel_rfl, fun _ _ h => h⟩ rfl (kn (t := 23) (j := 6) (by kernel_rfl)) (kn (t := 25) (j := 8) (by kernel_rfl)) (fun w' => run_neq_str hx _ _ _ w') ?_
      refine GW.pick (b := true) rfl trivial rfl (kn (t := 20) (j := 3) (by kernel_rfl)) (kn (t := 26) (j := 9) (by kernel_rfl)) (eqv_lasts _) ?_
      refine GW.done (by simp) (by kernel_rfl) (fun w' hg => ?_)
      intro v0 _ v1 _ v2 _ v3 _ v4 _ v5 _ v6 _ v7 _ v8 _ v9 _ v10 h10
      obtain rfl : v10 = (.bool false) := h10
      simp only [GFin, Act.put, List.setIfInBounds_toArray, List.set_cons_succ, List.set_cons_zero]
      have hg3 := Lib.hid (hg2'.out.trans hg)
      clear hr2 hR2 hm he0 he hx hg hr' hg2' hR2' hm' hxn' hRl
      have haw := Lib.hid (awake_any w')
      by_cases hnm : m.toNat < n.toNat
      · have hni : n64 m < n64 n := by unfold n64; omega
        clear hnm
        go_wp2_with fail
        refine haw.out.mono ?_
        rintro e w4 ⟨v, rfl, hv, hg4⟩
        obtain rfl : v = .bool true := hv
        replace hg4 := Lib.hid (hg3.out.trans hg4)
        clear haw hg3
        go_wp2
        go_ret
        exact ⟨_, rfl, rfl, hg4.out⟩
      · have hni : ¬ n64 m < n64 n := by unfold n64; omega
        have hlen : ((num n.toNat).length : Int) ≤ ((num m.toNat).length : Int) := by
          have := num_mono (m.toNat + 1) n.toNat m.toNat (by omega) (by omega)
          omega
        clear hnm
        go_wp2_with fail
        refine haw.out.mono ?_
        rintro e w4 ⟨v, rfl, hv, hg4⟩
        obtain rfl : v = .bool true := hv
        replace hg4 := Lib.hid (hg3.out.trans hg4)
        have hn1 := Lib.hid (vnum_any none 0 [] n w4 (by simp) RB.nil_)
        clear haw hg3
        go_wp2_with fail
        refine hn1.out.mono ?_
        rintro e w5 ⟨A5, c5, rfl, _, hg5⟩
        replace hg5 := Lib.hid (hg4.out.trans hg5)
        have hn2 := Lib.hid (vnum_any none 0 [] m w5 (by simp) RB.nil_)
        clear hn1 hg4
        rw [List.nil_append]
        go_wp2_with fail
        refine hn2.out.mono ?_
        rintro e w6 ⟨A6, c6, rfl, _, hg6⟩
        replace hg6 := Lib.hid (hg5.out.trans hg6)
        clear hn2 hg5
        rw [List.nil_append]
        go_wp2
        go_ret
        exact ⟨_, rfl, rfl, hg6.out⟩
    · have hne : ((ended s1 : Int) == 0) = false := by simp; omega
      refine region_grow (by kernel_rfl) (by kernel_rfl) ?_
      refine GW.mv rfl trivial (.inl rfl) (kn0 (t := 7) (c := .pointer (some ⟨g, 0, none⟩)) (by kernel_rfl) rfl) (eqv_lasts _) ?_
      refine GW.call1 (eqv (.int .i64 (ended s1 : Int))) rfl trivial rfl Try.func13 (by kernel_rfl) (by kernel_rfl) (eqv_lasts _) (kn (t := 17) (j := 0) (by kernel_rfl)) (fun v w' hg hv => ?_) ?_
      · obtain rfl : v = _ := hv
        refine (end_any g s1 w' (hR2.gr hg)).mono ?_
        rintro e w2 ⟨rfl, rfl⟩
        exact ⟨_, rfl, rfl, Gr.refl _⟩
      refine GW.bin (.bool false) rfl trivial rfl (kn (t := 18) (j := 1) (by kernel_rfl)) knc (fun w' => by rw [run_eql_int', hne]) ?_
      refine GW.mv rfl trivial (.inl rfl) (kn (t := 19) (j := 2) (by kernel_rfl)) (eqv_lasts _) ?_
      refine GW.skip rfl rfl (d := 20) (by kernel_rfl) (by kernel_rfl) (fun _ _ h => .inl h) ?_
      refine GW.skip rfl rfl (d := 20) (by kernel_rfl) (by kernel_rfl) (fun _ _ h => .inl h) ?_
      refine GW.skip rfl rfl (d := 20) (by kernel_rfl) (by kernel_rfl) (fun _ _ h => .inl h) ?_
      refine GW.skip rfl rfl (d := 20) (by kernel_rfl) (by kernel_rfl) (fun _ _ h => .inl h) ?_
      refine GW.skip rfl rfl (d := 20) (by kernel_rfl) (by kernel_rfl) (fun _ _ h => .inl h) ?_
      refine GW.skip rfl rfl (d := 20) (by kernel_rfl) (by kernel_rfl) (fun _ _ h => .inl h) ?_
      refine GW.pick (b := false) rfl trivial rfl (kn (t := 20) (j := 3) (by kernel_rfl)) (knc) (eqv_lasts _) ?_
      refine GW.done (by simp) (by kernel_rfl) (fun w' hg => ?_)
      intro v0 _ v1 _ v2 _ v3 _ v4 _ v5 _ v6 _ v7 _ v8 _ v9 _ v10 h10
      obtain rfl : v10 = (Value.bool false) := h10
      simp only [GFin, Act.put, List.setIfInBounds_toArray, List.set_cons_succ, List.set_cons_zero]
      have hg3 := Lib.hid (hg2'.out.trans hg)
      clear hr2 hR2 hm he0 hne hg hr' hg2' hR2' hm' hxn' hRl
      have haw := Lib.hid (awake_any w')
      by_cases hnm : m.toNat < n.toNat
      · have hni : n64 m < n64 n := by unfold n64; omega
        clear hnm
        go_wp2_with fail
        refine haw.out.mono ?_
        rintro e w4 ⟨v, rfl, hv, hg4⟩
        obtain rfl : v = .bool true := hv
        replace hg4 := Lib.hid (hg3.out.trans hg4)
        clear haw hg3
        go_wp2
        go_ret
        exact ⟨_, rfl, rfl, hg4.out⟩
      · have hni : ¬ n64 m < n64 n := by unfold n64; omega
        have hlen : ((num n.toNat).length : Int) ≤ ((num m.toNat).length : Int) := by
          have := num_mono (m.toNat + 1) n.toNat m.toNat (by omega) (by omega)
          omega
        clear hnm
        go_wp2_with fail
        refine haw.out.mono ?_
        rintro e w4 ⟨v, rfl, hv, hg4⟩
        obtain rfl : v = .bool true := hv
        replace hg4 := Lib.hid (hg3.out.trans hg4)
        have hn1 := Lib.hid (vnum_any none 0 [] n w4 (by simp) RB.nil_)
        clear haw hg3
        go_wp2_with fail
        refine hn1.out.mono ?_
        rintro e w5 ⟨A5, c5, rfl, _, hg5⟩
        replace hg5 := Lib.hid (hg4.out.trans hg5)
        have hn2 := Lib.hid (vnum_any none 0 [] m w5 (by simp) RB.nil_)
        clear hn1 hg4
        rw [List.nil_append]
        go_wp2_with fail
        refine hn2.out.mono ?_
        rintro e w6 ⟨A6, c6, rfl, _, hg6⟩
        replace hg6 := Lib.hid (hg5.out.trans hg6)
        clear hn2 hg5
        rw [List.nil_append]
        go_wp2
        go_ret
        exact ⟨_, rfl, rfl, hg6.out⟩
end Vint
end Go.Proofs.Ytblafmoidgmnfaa
