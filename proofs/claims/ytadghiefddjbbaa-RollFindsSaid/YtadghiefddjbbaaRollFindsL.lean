/- The walk of RollFinds: it returns true and writes nothing that was there. No condition. -/
import Derived.Test.YtadghiefddjbbaaRollRef
import Derived.Test.YtadghiefddjbbaaMemB
set_option linter.unusedVariables false
set_option linter.unusedSimpArgs false
namespace Go.Proofs.Ytadghiefddjbbaa
open Go Go.RowKit W
namespace Roll
theorem first_le (bs : List UInt8) (n k m : Nat) (hk : k < m) : ∃ j, j ≤ k ∧ first (upto bs n m) (of ((bs.drop k).take n)) = some j := by
  have : ∀ d j, d + j = k → (∀ i, i < j → (of ((bs.drop i).take n) == of ((bs.drop k).take n)) = false) → ∃ j, j ≤ k ∧ first (upto bs n m) (of ((bs.drop k).take n)) = some j := by
    intro d
    induction d with
    | zero =>
      intro j hj h
      obtain rfl : j = k := by omega
      exact ⟨j, Nat.le_refl _, first_at h hk (by simp)⟩
    | succ d ih =>
      intro j hj h
      cases he : (of ((bs.drop j).take n) == of ((bs.drop k).take n))
      · exact ih (j + 1) (by omega) (fun i hi => by
          rcases Nat.lt_or_ge i j with g | g
          · exact h i g
          · obtain rfl : i = j := by omega
            exact he)
      · exact ⟨j, by omega, first_at h (by omega) he⟩
  exact this k 0 (by omega) (fun i hi => by omega)

set_option maxHeartbeats 2000000 in
theorem rollFinds_walk (A : Option Addr) (c : Nat) (l : List UInt8) (n : Int) (x y : UInt32) (w : World)
    (hc : l.length ≤ c) (hm : c ≤ maxLen) (hr : RB w w.heap.size A l) (hn : -9223372036854775808 ≤ n ∧ n ≤ 9223372036854775807) :
    Calls Try.prog 5 #[.slice A l.length c, .int .i64 n, .agg #[.int .u32 (n32 x), .int .u32 (n32 y)]] w (Ret (eqv (.bool true)) w) := by
  have hrh := Lib.hid hr
  clear hr
  have haw := Lib.hid (fun w => awake_any w)
  have g0 := Lib.hid ((Gr.refl w).alloc (.cells #[.int .u32 (n32 x), .int .u32 (n32 y)] 35))
  have b0 := Lib.hid (Blk.new w 35 #[.int .u32 (n32 x), .int .u32 (n32 y)])
  have d0 := b0.out.cell 0
  have d1 := b0.out.cell 1
  by_cases h200 : l.length ≤ 200
  · have k200 : ¬ (200 : Int) < (l.length : Int) := by omega
    have hfi := Lib.hid (fun s w (hr : RB w w.heap.size A l) => find_any A c n s l (by omega) hc hm w hr)
    have hrf := Lib.hid (fun s w => refFind_any l n hn s w (by omega))
    go_enter Try.func5, Try.ntmps5
    go_wp2_with fail
    refine (hfi.out x _ ((hrh.out.below g0.out).more g0.out.size)).mono ?_
    rintro e w1 ⟨rfl, hg1⟩
    have g1 := Lib.hid (g0.out.trans hg1)
    have b1 := Lib.hid (b0.out.below hg1 b0.out.lt)
    have e0 := b1.out.cell 0
    have e1 := b1.out.cell 1
    clear d0 d1 b0 g0 hg1
    have hbs := run_bytes_string (P := Try.prog) w1 22 9 5 Try.underlying22 Try.underlying5 Try.underlying9 _ A c l.length l rfl (hrh.out.below g1.out)
    cases ho : first (wins l n) x with
    | none =>
      dsimp only [told]
      go_wp2_with fail
      refine (hrf.out x w1).mono ?_
      rintro e w2 ⟨rfl, rfl⟩
      rw [ho]
      dsimp only [refTold]
      by_cases g : 1 ≤ n ∧ n ≤ l.length
      · obtain ⟨m, rfl⟩ : ∃ k : Nat, n = (k : Int) := ⟨n.toNat, by omega⟩
        have ew : wins l m = upto l m (l.length - m + 1) := by unfold wins; rw [if_pos g]; rfl
        obtain ⟨h1, h2⟩ := g
        have h3 : ¬ ((m : Int) < 1) := by omega
        have h4 : ¬ ((l.length : Int) < (m : Int)) := by omega
        obtain ⟨q, hq⟩ : ∃ q : Nat, q = (y % UInt32.ofNat (l.length - m + 1)).toNat := ⟨_, rfl⟩
        have hq1 : q < l.length - m + 1 := by
          rw [hq, UInt32.toNat_mod, UInt32.toNat_ofNat', Nat.mod_eq_of_lt (a := l.length - m + 1) (by omega)]
          exact Nat.mod_lt _ (by omega)
        have hq0 : n32 (y % (UInt32.ofNat l.length - UInt32.ofNat m + 1)) = (q : Int) := by
          rw [hq, show UInt32.ofNat l.length - UInt32.ofNat m + 1 = UInt32.ofNat (l.length - m + 1) from by
            apply UInt32.toNat_inj.1
            rw [UInt32.toNat_add, UInt32.toNat_sub, UInt32.toNat_ofNat', UInt32.toNat_ofNat', UInt32.toNat_ofNat']
            simp; omega]
          rfl
        have q0 : 0 ≤ (q : Int) := by omega
        have q1 : (q : Int) + (m : Int) ≤ (l.length : Int) := by omega
        have q2 : (q : Int) ≤ (l.length : Int) := by omega
        have q3 : (q : Int) ≤ (q : Int) + (m : Int) := by omega
        have q4 : ¬ c = q := by omega
        have q5 : (q : Int) + (m : Int) ≤ (c : Int) := by omega
        have hof : ∀ w', RB w' w.heap.size A l → w.heap.size ≤ w'.heap.size → Calls Try.prog 7 #[.slice (Option.map (fun x => x.add q) A) m (c - q)] w' fun e w2 => e = .returned (.int .u32 (n32 (of ((l.drop q).take m)))) ∧ Gr w' w2 := by
          intro w' hr hsz
          have := of_any (A.map fun x => x.add q) (c - q) w.heap.size ((l.drop q).take m) w' (by simp; omega) hsz (by
            have := (hr.drop (k := q) (cap := c) (by omega) hc).take (k := m) (by simp; omega)
            rw [if_neg (by omega)] at this
            exact this)
          rw [show ((l.drop q).take m).length = m from by simp; omega] at this
          exact this
        have hof := Lib.hid hof
        have q6 : ¬ (n32 (UInt32.ofNat l.length - UInt32.ofNat m + 1) = 0) := by
          rw [show UInt32.ofNat l.length - UInt32.ofNat m + 1 = UInt32.ofNat (l.length - m + 1) from by
            apply UInt32.toNat_inj.1
            rw [UInt32.toNat_add, UInt32.toNat_sub, UInt32.toNat_ofNat', UInt32.toNat_ofNat', UInt32.toNat_ofNat']
            simp; omega]
          intro h
          rw [n32_def, UInt32.toNat_ofNat'] at h
          omega
        clear hq
        go_wp2_with fail
        refine (hof.out w1 (hrh.out.below g1.out) g1.out.size).mono ?_
        rintro e w3 ⟨rfl, hg3⟩
        have g3 := Lib.hid (g1.out.trans hg3)
        clear hof hbs hg3 e0 e1 b1
        go_wp2_with fail
        refine (hfi.out _ _ ((hrh.out.below g3.out).more g3.out.size)).mono ?_
        rintro e w4 ⟨rfl, hg4⟩
        have g4 := Lib.hid (g3.out.trans hg4)
        clear hg4
        obtain ⟨j, hj, hfj⟩ := first_le l m q _ hq1
        rw [ew, hfj]
        clear ew hfj
        dsimp only [told]
        have j0 : (j : Int) ≤ (q : Int) := by omega
        go_wp2_with fail
        refine (haw.out _).mono ?_
        rintro e w' ⟨v, rfl, hv, hg⟩
        obtain rfl : v = .bool true := hv
        go_wp2
        go_ret
        exact ⟨_, rfl, rfl, g4.out.trans hg⟩
      · have ew : wins l n = [] := by unfold wins; rw [if_neg g]
        have hmore : n < 1 ∨ ¬ (n < 1) ∧ (l.length : Int) < n := by omega
        rcases hmore with h1 | ⟨h1, h2⟩
        · go_wp2_with fail
          refine (haw.out _).mono ?_
          rintro e w' ⟨v, rfl, hv, hg⟩
          obtain rfl : v = .bool true := hv
          go_wp2
          go_ret
          exact ⟨_, rfl, rfl, g1.out.trans hg⟩
        · go_wp2_with fail
          refine (haw.out _).mono ?_
          rintro e w' ⟨v, rfl, hv, hg⟩
          obtain rfl : v = .bool true := hv
          go_wp2
          go_ret
          exact ⟨_, rfl, rfl, g1.out.trans hg⟩
    | some k =>
      have p0 : 0 ≤ (k : Int) := by omega
      dsimp only [told]
      go_wp2_with fail
      refine (hrf.out x w1).mono ?_
      rintro e w2 ⟨rfl, rfl⟩
      rw [ho]
      dsimp only [refTold]
      by_cases g : 1 ≤ n ∧ n ≤ l.length
      · obtain ⟨m, rfl⟩ : ∃ k : Nat, n = (k : Int) := ⟨n.toNat, by omega⟩
        have ew : wins l m = upto l m (l.length - m + 1) := by unfold wins; rw [if_pos g]; rfl
        obtain ⟨h1, h2⟩ := g
        have h3 : ¬ ((m : Int) < 1) := by omega
        have h4 : ¬ ((l.length : Int) < (m : Int)) := by omega
        obtain ⟨q, hq⟩ : ∃ q : Nat, q = (y % UInt32.ofNat (l.length - m + 1)).toNat := ⟨_, rfl⟩
        have hq1 : q < l.length - m + 1 := by
          rw [hq, UInt32.toNat_mod, UInt32.toNat_ofNat', Nat.mod_eq_of_lt (a := l.length - m + 1) (by omega)]
          exact Nat.mod_lt _ (by omega)
        have hq0 : n32 (y % (UInt32.ofNat l.length - UInt32.ofNat m + 1)) = (q : Int) := by
          rw [hq, show UInt32.ofNat l.length - UInt32.ofNat m + 1 = UInt32.ofNat (l.length - m + 1) from by
            apply UInt32.toNat_inj.1
            rw [UInt32.toNat_add, UInt32.toNat_sub, UInt32.toNat_ofNat', UInt32.toNat_ofNat', UInt32.toNat_ofNat']
            simp; omega]
          rfl
        have q0 : 0 ≤ (q : Int) := by omega
        have q1 : (q : Int) + (m : Int) ≤ (l.length : Int) := by omega
        have q2 : (q : Int) ≤ (l.length : Int) := by omega
        have q3 : (q : Int) ≤ (q : Int) + (m : Int) := by omega
        have q4 : ¬ c = q := by omega
        have q5 : (q : Int) + (m : Int) ≤ (c : Int) := by omega
        have hof : ∀ w', RB w' w.heap.size A l → w.heap.size ≤ w'.heap.size → Calls Try.prog 7 #[.slice (Option.map (fun x => x.add q) A) m (c - q)] w' fun e w2 => e = .returned (.int .u32 (n32 (of ((l.drop q).take m)))) ∧ Gr w' w2 := by
          intro w' hr hsz
          have := of_any (A.map fun x => x.add q) (c - q) w.heap.size ((l.drop q).take m) w' (by simp; omega) hsz (by
            have := (hr.drop (k := q) (cap := c) (by omega) hc).take (k := m) (by simp; omega)
            rw [if_neg (by omega)] at this
            exact this)
          rw [show ((l.drop q).take m).length = m from by simp; omega] at this
          exact this
        have hof := Lib.hid hof
        have q6 : ¬ (n32 (UInt32.ofNat l.length - UInt32.ofNat m + 1) = 0) := by
          rw [show UInt32.ofNat l.length - UInt32.ofNat m + 1 = UInt32.ofNat (l.length - m + 1) from by
            apply UInt32.toNat_inj.1
            rw [UInt32.toNat_add, UInt32.toNat_sub, UInt32.toNat_ofNat', UInt32.toNat_ofNat', UInt32.toNat_ofNat']
            simp; omega]
          intro h
          rw [n32_def, UInt32.toNat_ofNat'] at h
          omega
        clear hq
        go_wp2_with fail
        refine (hof.out w1 (hrh.out.below g1.out) g1.out.size).mono ?_
        rintro e w3 ⟨rfl, hg3⟩
        have g3 := Lib.hid (g1.out.trans hg3)
        clear hof hbs hg3 e0 e1 b1
        go_wp2_with fail
        refine (hfi.out _ _ ((hrh.out.below g3.out).more g3.out.size)).mono ?_
        rintro e w4 ⟨rfl, hg4⟩
        have g4 := Lib.hid (g3.out.trans hg4)
        clear hg4
        obtain ⟨j, hj, hfj⟩ := first_le l m q _ hq1
        rw [ew, hfj]
        clear ew hfj
        dsimp only [told]
        have j0 : (j : Int) ≤ (q : Int) := by omega
        go_wp2_with fail
        refine (haw.out _).mono ?_
        rintro e w' ⟨v, rfl, hv, hg⟩
        obtain rfl : v = .bool true := hv
        go_wp2
        go_ret
        exact ⟨_, rfl, rfl, g4.out.trans hg⟩
      · have ew : wins l n = [] := by unfold wins; rw [if_neg g]
        rw [ew] at ho
        cases ho
  · have k200 : (200 : Int) < (l.length : Int) := by omega
    go_enter Try.func5, Try.ntmps5
    go_wp2_with (go_at_call 6; refine (haw.out _).mono ?_; rintro e w' ⟨v, rfl, hv, hg⟩; obtain rfl : v = .bool true := hv)
    go_ret
    exact ⟨_, rfl, rfl, g0.out.trans hg⟩
end Roll
end Go.Proofs.Ytadghiefddjbbaa
