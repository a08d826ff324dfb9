/- The walks of a reader of numbers, texts and sums: the number's. No condition but sizes. -/
import Derived.Test.YtcibngbgcnnjnaaVintPut
set_option linter.unusedVariables false
set_option linter.unusedSimpArgs false
namespace Go.Proofs.Ytcibngbgcnnjnaa
open Go Go.RowKit W
namespace Vint
/-- Block g is a reader: what is left, and the first error. Its bytes lie below it. -/
def Rdr (w : World) (g : Nat) (s : RS) : Prop := ∃ A c, Blk w g 100 #[.slice A s.1.length c, .int .i64 (s.2 : Int)] ∧ RB w g A s.1 ∧ s.1.length ≤ c ∧ c ≤ maxLen
theorem Rdr.lt {w : World} {g : Nat} {s : RS} (h : Rdr w g s) : g < w.heap.size := by
  obtain ⟨A, c, hb, _⟩ := h
  exact hb.lt
theorem Rdr.gr {w w' : World} {g : Nat} {s : RS} (h : Rdr w g s) (k : Gr w w') : Rdr w' g s := by
  obtain ⟨A, c, hb, hr, h1, h2⟩ := h
  exact ⟨A, c, hb.below k hb.lt, hr.below (Below.mono k (Nat.le_of_lt hb.lt)), h1, h2⟩
theorem Rdr.other {w w' : World} {g n : Nat} {s : RS} (h : Rdr w g s) (k : Kb n w w') (hn : g < n) : Rdr w' g s := by
  obtain ⟨A, c, hb, hr, h1, h2⟩ := h
  refine ⟨A, c, k.blk hb (by omega), hr.keep fun p hp => ?_, h1, h2⟩
  have := World.grownBy.block k p.block (by have := hb.lt; omega) (fun e => by cases e; omega)
  unfold World.cell?
  rw [this]
/-! ### the number's step -/
theorem low_and (c : UInt8) : (c &&& 127).toNat = c.toNat % 128 := by
  rw [UInt8.toNat_and]
  exact Nat.and_two_pow_sub_one_eq_mod c.toNat 7
theorem scan_or (nn i : Nat) (c : UInt8) (hn : nn < 128 ^ i) (hi : i ≤ 9) (h9 : i = 9 → c.toNat ≤ 1) :
    UInt64.ofNat nn ||| (c.toUInt64 &&& 127) * UInt64.ofInt (2 ^ (7 * i)) = UInt64.ofNat (nn + 128 ^ i * (c.toNat % 128)) ∧ nn + 128 ^ i * (c.toNat % 128) < 18446744073709551616 ∧ nn + 128 ^ i * (c.toNat % 128) < 128 ^ (i + 1) := by
  have e : ((2 : Int) ^ (7 * i)) = ((128 ^ i : Nat) : Int) := by rw [Int.pow_mul]; simp
  have hp : 128 ^ i ≤ 128 ^ 9 := Nat.pow_le_pow_right (by omega) hi
  have h9' : (128 : Nat) ^ 9 = 9223372036854775808 := by decide
  have h8' : (128 : Nat) ^ 8 = 72057594037927936 := by decide
  have hd : c.toNat % 128 < 128 := Nat.mod_lt _ (by omega)
  have hlt : nn + 128 ^ i * (c.toNat % 128) < 128 ^ (i + 1) := by
    have : 128 ^ i * (c.toNat % 128) + 128 ^ i ≤ 128 ^ i * 128 := by rw [← Nat.mul_succ]; exact Nat.mul_le_mul_left _ hd
    rw [Nat.pow_succ]
    omega
  have hlt2 : nn + 128 ^ i * (c.toNat % 128) < 18446744073709551616 := by
    by_cases h : i = 9
    · have hc := h9 h
      subst h
      have : c.toNat % 128 ≤ 1 := by omega
      have : 128 ^ 9 * (c.toNat % 128) ≤ 128 ^ 9 * 1 := Nat.mul_le_mul_left _ this
      omega
    · have h1 : 128 ^ (i + 1) ≤ 128 ^ 9 := Nat.pow_le_pow_right (by omega) (by omega)
      omega
  refine ⟨?_, hlt2, hlt⟩
  rw [e, w_ofNat_u64]
  apply UInt64.toNat_inj.1
  have hc : (c.toUInt64 &&& 127).toNat = c.toNat % 128 := by
    rw [UInt64.toNat_and]
    have : c.toUInt64.toNat = c.toNat := by simp
    rw [this]
    exact Nat.and_two_pow_sub_one_eq_mod c.toNat 7
  rw [UInt64.toNat_or, UInt64.toNat_mul, hc, UInt64.toNat_ofNat', UInt64.toNat_ofNat', UInt64.toNat_ofNat']
  have hmul : c.toNat % 128 * (128 ^ i % 2 ^ 64) % 2 ^ 64 = 128 ^ i * (c.toNat % 128) := by
    rw [Nat.mod_eq_of_lt (a := 128 ^ i) (by show 128 ^ i < 18446744073709551616; omega), Nat.mul_comm]
    exact Nat.mod_eq_of_lt (by show _ < 18446744073709551616; omega)
  rw [hmul, Nat.mod_eq_of_lt (a := nn) (by show nn < 18446744073709551616; omega), Nat.mod_eq_of_lt (show _ < 2 ^ 64 from hlt2)]
  have e2 : 128 ^ i = 2 ^ (7 * i) := by rw [Nat.pow_mul]
  rw [e2] at hn ⊢
  rw [Nat.or_comm, Nat.add_comm]
  exact (Nat.two_pow_add_eq_or_of_lt hn _).symm
theorem scan_step {l : List UInt8} {most i nn : Nat} (hi : i < 10) (hl : i < l.length) (h9 : ¬ (i = 9 ∧ 1 < (l[i]).toNat)) :
    scan l most i nn = if 128 ≤ (l[i]).toNat then scan l most (i + 1) (nn + 128 ^ i * ((l[i]).toNat % 128)) else
      if (l[i]).toNat = 0 ∧ 0 < i then (3, 0, 0) else if most < nn + 128 ^ i * ((l[i]).toNat % 128) then (5, 0, 0) else (0, nn + 128 ^ i * ((l[i]).toNat % 128), i + 1) := by
  have e : l.getD i 0 = l[i] := by simp [List.getD, hl]
  rw [scan, dif_pos hi, if_neg (by omega), e, if_neg h9]
/-- What a number's read leaves. -/
def left (l : List UInt8) (r : Nat × Nat × Nat) : List UInt8 := if r.1 = 0 then l.drop r.2.2 else l
def gotV (r : Nat × Nat × Nat) : Value := .tuple #[.int .u64 (n64 (UInt64.ofNat r.2.1)), .int .i64 (r.1 : Int)]
set_option maxRecDepth 100000 in
set_option maxHeartbeats 2000000 in
theorem number_any (g : Nat) (l : List UInt8) (most : UInt64) (w : World) (hR : Rdr w g (l, 0)) :
    Calls Try.prog 65 #[.pointer (some ⟨g, 0, none⟩), .int .u64 (n64 most)] w fun e w' => e = .returned (gotV (scan l most.toNat 0 0)) ∧ Rdr w' g (left l (scan l most.toNat 0 0), 0) ∧ Kb g w w' := by
  have hR' := Lib.hid hR
  obtain ⟨A, c, hb, hr, hcl, hcm⟩ := hR
  have q0 : w.cell? ⟨g, 0, none⟩ = some (.slice A l.length c) := hb.cell 0
  replace hr := Lib.hid hr
  replace hb := Lib.hid hb
  obtain ⟨r, hrr⟩ : ∃ r, r = scan l most.toNat 0 0 := ⟨_, rfl⟩
  rw [← hrr]
  replace hrr := Lib.hid hrr
  go_enter Try.func65, Try.ntmps65
  go_wp2
  go_loop [6, 9] (fun x j => ∃ (i nn : Nat), i ≤ 10 ∧ i ≤ l.length ∧ x = .int .u64 (n64 (UInt64.ofNat nn)) ∧ j = .int .i64 (i : Int) ∧ nn < 128 ^ i ∧ Hid (r = scan l most.toNat i nn)) (fun _ j => 10 - (intOf j).toNat)
  case atStart => exact ⟨0, 0, by omega, by omega, rfl, rfl, by omega, hrr⟩
  case round =>
    obtain ⟨i, nn, hi, hil, rfl, rfl, hnn, hs⟩ := hrel
    by_cases h10 : i < 10
    · have h10i : (i : Int) < 10 := by omega
      by_cases hl : i < l.length
      · obtain ⟨ad, hA, hlt, hc⟩ := hr.out.at_ hl
        subst hA
        have hne : ¬ (i = l.length) := by omega
        have hnei : ¬ ((i : Int) = (l.length : Int)) := by omega
        obtain ⟨d, hd⟩ : ∃ d, d = l[i] := ⟨_, rfl⟩
        rw [← hd] at hc
        by_cases h9 : i = 9
        · subst h9
          have hc9 : w.cell? ⟨ad.block, ad.off + 9, none⟩ = some (.int .u8 (n8 d)) := by simpa [Addr.add] using hc
          have hd9 : l.getD 9 0 = d := by rw [hd]; simp [List.getD, hl]
          have hne9 : ¬ (9 : Int) = (l.length : Int) := by omega
          by_cases h1 : 1 < d.toNat
          · have h1i : (1 : Int) < n8 d := by unfold n8; omega
            have hf : Hid (r = (3, 0, 0)) := by
              rw [hs.out, scan, dif_pos h10, if_neg (by omega), if_pos (by rw [hd9]; exact ⟨rfl, h1⟩)]
              exact Lib.hid rfl
            clear hs hd hd9
            go_wp2
            go_ret2
            rw [hf.out]
            exact ⟨rfl, hR'.out, Kb.refl g w⟩
          · have h1i : ¬ (1 : Int) < n8 d := by unfold n8; omega
            have hst := scan_step (most := most.toNat) (nn := nn) h10 hl (by rw [← hd]; omega)
            rw [← hd] at hst
            obtain ⟨hor, hb1, hb2⟩ := scan_or nn 9 d hnn (by omega) (by omega)
            rw [← hs.out] at hst
            obtain ⟨m, hm⟩ : ∃ m, m = nn + 128 ^ 9 * (d.toNat % 128) := ⟨_, rfl⟩
            rw [← hm] at hst hor hb1 hb2
            have h128 : ¬ 128 ≤ d.toNat := by omega
            have h128i : ¬ (128 : Int) ≤ n8 d := by unfold n8; omega
            have hor9 : UInt64.ofNat nn ||| (d.toUInt64 &&& 127) * 9223372036854775808 = UInt64.ofNat m := hor
            clear hs hd hd9 hm hc hor
            by_cases h0 : d.toNat = 0 ∧ 0 < 9
            · have e0 : (n8 d == 0) = true := by simp [n8]; omega
              have hf : Hid (r = (3, 0, 0)) := by rw [hst, if_neg h128, if_pos h0]; exact Lib.hid rfl
              clear hst h0
              go_wp2
              go_ret2
              rw [hf.out]
              exact ⟨rfl, hR'.out, Kb.refl g w⟩
            · have hz : (n8 d == 0) = false ∧ True := by simp [n8]; omega
              obtain ⟨hz, _⟩ := hz
              by_cases hm : most.toNat < m
              · have hf : Hid (r = (5, 0, 0)) := by rw [hst, if_neg h128, if_neg h0, if_pos hm]; exact Lib.hid rfl
                have hmi : n64 most < n64 (UInt64.ofNat m) := by unfold n64; rw [UInt64.toNat_ofNat', Nat.mod_eq_of_lt (show m < 2 ^ 64 from hb1)]; omega
                clear hst h0 hm
                go_wp2
                go_ret2
                rw [hf.out]
                exact ⟨rfl, hR'.out, Kb.refl g w⟩
              · have hf : Hid (r = (0, m, 9 + 1)) := by rw [hst, if_neg h128, if_neg h0, if_neg hm]; exact Lib.hid rfl
                have hmi : ¬ n64 most < n64 (UInt64.ofNat m) := by unfold n64; rw [UInt64.toNat_ofNat', Nat.mod_eq_of_lt (show m < 2 ^ 64 from hb1)]; omega
                clear hst h0 hm
                have q1 := hb.out.frozen 0
                have hrd := hr.out.drop (k := 9 + 1) (cap := c) (by omega) hcl
                have hdl : (l.drop (9 + 1)).length = l.length - (9 + 1) := List.length_drop
                by_cases hcc : c = 10
                · subst hcc
                  rw [if_pos rfl] at hrd
                  have hz0 : l.length - (9 + 1) = 0 := by omega
                  have hR2 : Hid (Rdr (w.setCell ⟨g, 0, none⟩ (.slice (some ad) 0 0)) g (l.drop (10), 0)) := by
                    refine Lib.hid ⟨_, 0, ?_, RB.setCell hrd (p := ⟨g, 0, none⟩) (Nat.le_refl _) _, ?_, ?_⟩
                    · rw [hdl, hz0]; exact hb.out.set_ 0 (.slice (some ad) 0 0)
                    · rw [hdl]; omega
                    · unfold maxLen; omega
                  have hk2 := Lib.hid ((Kb.refl g w).set 0 (.slice (some ad) 0 0))
                  clear hrd hdl hz0
                  (go_wp2; go_ret2; rw [hf.out]; exact ⟨rfl, hR2.out, hk2.out⟩)
                · rw [if_neg hcc] at hrd
                  have hrd : RB w g (some ⟨ad.block, ad.off + 10, none⟩) (l.drop (9 + 1)) := hrd
                  have hR2 : Hid (Rdr (w.setCell ⟨g, 0, none⟩ (.slice (some ⟨ad.block, ad.off + 10, none⟩) (l.length - (10)) (c - (10)))) g (l.drop (10), 0)) := by
                    refine Lib.hid ⟨_, (c - (10)), ?_, RB.setCell hrd (p := ⟨g, 0, none⟩) (Nat.le_refl _) _, ?_, ?_⟩
                    · rw [hdl]; exact hb.out.set_ 0 (.slice (some ⟨ad.block, ad.off + 10, none⟩) (l.length - (10)) (c - (10)))
                    · rw [hdl]; omega
                    · omega
                  have hk2 := Lib.hid ((Kb.refl g w).set 0 (.slice (some ⟨ad.block, ad.off + 10, none⟩) (l.length - (10)) (c - (10))))
                  clear hrd hdl
                  (go_wp2; go_ret2; rw [hf.out]; exact ⟨rfl, hR2.out, hk2.out⟩)
        · have h9i : ¬ ((i : Int) = 9) := by omega
          have hst := scan_step (most := most.toNat) (nn := nn) h10 hl (by omega)
          rw [← hd] at hst
          obtain ⟨hor, hb1, hb2⟩ := scan_or nn i d hnn (by omega) (by omega)
          rw [← hs.out] at hst
          obtain ⟨m, hm⟩ : ∃ m, m = nn + 128 ^ i * (d.toNat % 128) := ⟨_, rfl⟩
          rw [← hm] at hst hor hb1 hb2
          clear hs hd hm
          by_cases h128 : 128 ≤ d.toNat
          · have h128i : (128 : Int) ≤ n8 d := by unfold n8; omega
            have hst2 : Hid (r = scan l most.toNat (i + 1) m) := by rw [hst, if_pos h128]; exact Lib.hid rfl
            clear hst
            go_wp2
            go_round
            case rel => exact ⟨i + 1, m, by omega, by omega, rfl, by go_num, hb2, hst2⟩
            case measure => simp [intOf]; omega
          · have h128i : ¬ (128 : Int) ≤ n8 d := by unfold n8; omega
            by_cases h0 : d.toNat = 0 ∧ 0 < i
            · have e0 : (n8 d == 0) = true := by simp [n8]; omega
              have e1 : (0 : Int) < (i : Int) := by omega
              have hf : Hid (r = (3, 0, 0)) := by rw [hst, if_neg h128, if_pos h0]; exact Lib.hid rfl
              clear hst h0
              go_wp2
              go_ret2
              rw [hf.out]
              exact ⟨rfl, hR'.out, Kb.refl g w⟩
            · have hz : (n8 d == 0) = false ∨ ((n8 d == 0) = true ∧ ¬ (0 : Int) < (i : Int)) := by simp [n8]; omega
              by_cases hm : most.toNat < m
              · have hf : Hid (r = (5, 0, 0)) := by rw [hst, if_neg h128, if_neg h0, if_pos hm]; exact Lib.hid rfl
                have hmi : n64 most < n64 (UInt64.ofNat m) := by unfold n64; rw [UInt64.toNat_ofNat', Nat.mod_eq_of_lt (show m < 2 ^ 64 from hb1)]; omega
                clear hst h0 hm
                rcases hz with hz | ⟨hz, hz2⟩ <;> (go_wp2; go_ret2; rw [hf.out]; exact ⟨rfl, hR'.out, Kb.refl g w⟩)
              · have hf : Hid (r = (0, m, i + 1)) := by rw [hst, if_neg h128, if_neg h0, if_neg hm]; exact Lib.hid rfl
                have hmi : ¬ n64 most < n64 (UInt64.ofNat m) := by unfold n64; rw [UInt64.toNat_ofNat', Nat.mod_eq_of_lt (show m < 2 ^ 64 from hb1)]; omega
                clear hst h0 hm
                have q1 := hb.out.frozen 0
                have hrd := hr.out.drop (k := i + 1) (cap := c) (by omega) hcl
                have hdl : (l.drop (i + 1)).length = l.length - (i + 1) := List.length_drop
                by_cases hcc : c = i + 1
                · subst hcc
                  rw [if_pos rfl] at hrd
                  have hz0 : l.length - (i + 1) = 0 := by omega
                  have hR2 : Hid (Rdr (w.setCell ⟨g, 0, none⟩ (.slice (some ad) 0 0)) g (l.drop (i + 1), 0)) := by
                    refine Lib.hid ⟨_, 0, ?_, RB.setCell hrd (p := ⟨g, 0, none⟩) (Nat.le_refl _) _, ?_, ?_⟩
                    · rw [hdl, hz0]; exact hb.out.set_ 0 (.slice (some ad) 0 0)
                    · rw [hdl]; omega
                    · unfold maxLen; omega
                  have hk2 := Lib.hid ((Kb.refl g w).set 0 (.slice (some ad) 0 0))
                  clear hrd hdl hz0
                  rcases hz with hz | ⟨hz, hz2⟩ <;> (go_wp2; go_ret2; rw [hf.out]; exact ⟨rfl, hR2.out, hk2.out⟩)
                · rw [if_neg hcc] at hrd
                  have hR2 : Hid (Rdr (w.setCell ⟨g, 0, none⟩ (.slice (some (ad.add (i + 1))) (l.length - (i + 1)) (c - (i + 1)))) g (l.drop (i + 1), 0)) := by
                    refine Lib.hid ⟨_, (c - (i + 1)), ?_, RB.setCell hrd (p := ⟨g, 0, none⟩) (Nat.le_refl _) _, ?_, ?_⟩
                    · rw [hdl]; exact hb.out.set_ 0 (.slice (some (ad.add (i + 1))) (l.length - (i + 1)) (c - (i + 1)))
                    · rw [hdl]; omega
                    · omega
                  have hk2 := Lib.hid ((Kb.refl g w).set 0 (.slice (some (ad.add (i + 1))) (l.length - (i + 1)) (c - (i + 1))))
                  clear hrd hdl
                  rcases hz with hz | ⟨hz, hz2⟩ <;> (go_wp2; go_ret2; rw [hf.out]; exact ⟨rfl, hR2.out, hk2.out⟩)
      · have hlq : i = l.length := by omega
        have hf : Hid (r = (4, 0, 0)) := by rw [hs.out, scan, dif_pos h10, if_pos (by omega)]; exact Lib.hid rfl
        have hli : ((i : Int) == (l.length : Int)) = true := by simp; omega
        clear hs hlq
        go_wp2
        go_ret2
        rw [hf.out]
        exact ⟨rfl, hR'.out, Kb.refl g w⟩
    · have h10i : ¬ (i : Int) < 10 := by omega
      have hf : Hid (r = (3, 0, 0)) := by rw [hs.out, scan, dif_neg h10]; exact Lib.hid rfl
      clear hs
      go_wp2
      go_ret2
      rw [hf.out]
      exact ⟨rfl, hR'.out, Kb.refl g w⟩
end Vint
end Go.Proofs.Ytcibngbgcnnjnaa

