/- The walks of a reader of numbers, texts and sums, further: ints, texts, sums, what is left, the end. No condition but sizes. -/
import Derived.Test.YtcibngbgcnnjnaaVintReadB
set_option linter.unusedVariables false
set_option linter.unusedSimpArgs false
namespace Go.Proofs.Ytcibngbgcnnjnaa
open Go Go.RowKit W
namespace Vint
theorem scan_le (l : List UInt8) (most : Nat) (k : Nat) : ∀ i n, 10 - i ≤ k → (scan l most i n).2.1 ≤ most := by
  induction k with
  | zero =>
    intro i n hk
    rw [scan, dif_neg (by omega)]
    exact Nat.zero_le _
  | succ k ih =>
    intro i n hk
    rw [scan]
    split
    · split
      · exact Nat.zero_le _
      · split
        · exact Nat.zero_le _
        · split
          · exact ih _ _ (by omega)
          · split
            · exact Nat.zero_le _
            · split
              · exact Nat.zero_le _
              · rename_i h; exact Nat.le_of_not_lt h
    · exact Nat.zero_le _
theorem get_le (s : RS) (most : Nat) : (get s most).2 ≤ most := by
  unfold get
  split
  · split
    · exact scan_le _ _ 10 _ _ (by omega)
    · exact Nat.zero_le _
  · exact Nat.zero_le _
theorem rint_nat (g : Nat) (s : RS) (m : Nat) (w : World) (hm : m ≤ 9223372036854775807) (hR : Rdr w g s) :
    Calls Try.prog 34 #[.pointer (some ⟨g, 0, none⟩), .int .i64 (m : Int)] w fun e w' => e = .returned (.int .i64 ((get s m).2 : Int)) ∧ Rdr w' g (get s m).1 ∧ Kb g w w' := by
  have hmm : (UInt64.ofNat m).toNat = m := by rw [UInt64.toNat_ofNat']; omega
  have hn := rnum_any g s (UInt64.ofNat m) w hR
  rw [hmm] at hn
  have hv := get_le s m
  generalize get s m = r at *
  obtain ⟨s2, v⟩ := r
  have hv' : v ≤ 9223372036854775807 := Nat.le_trans hv hm
  have hn64 : n64 (UInt64.ofNat v) = (v : Int) := by unfold n64; rw [UInt64.toNat_ofNat']; omega
  have hn' := Lib.hid hn
  have hm0 : (0 : Int) ≤ (m : Int) := by omega
  have hm1 : ¬ (m : Int) < 0 := by omega
  clear hn hmm hR hv
  go_enter Try.func34, Try.ntmps34
  go_wp2_with fail
  refine hn'.out.mono ?_
  rintro e w1 ⟨rfl, hR1, hk1⟩
  replace hR1 := Lib.hid hR1
  replace hk1 := Lib.hid hk1
  clear hn'
  go_wp2
  go_ret
  exact ⟨rfl, hR1.out, hk1.out⟩
theorem rint_neg (g : Nat) (s : RS) (m : Int) (w : World) (hm : m < 0) (hR : Rdr w g s) :
    Calls Try.prog 34 #[.pointer (some ⟨g, 0, none⟩), .int .i64 m] w fun e w' => e = .returned (.int .i64 ((get s 0).2 : Int)) ∧ Rdr w' g (get s 0).1 ∧ Kb g w w' := by
  have hn := rnum_any g s 0 w hR
  have hv := get_le s 0
  rw [show (0 : UInt64).toNat = 0 from rfl] at hn
  generalize get s 0 = r at *
  obtain ⟨s2, v⟩ := r
  obtain rfl : v = 0 := Nat.le_zero.1 hv
  have hn' := Lib.hid (show Calls Try.prog 55 #[.pointer (some ⟨g, 0, none⟩), .int .u64 0] w fun e w' => e = .returned (.int .u64 0) ∧ Rdr w' g s2 ∧ Kb g w w' from hn)
  have hm1 : ¬ (0 : Int) ≤ m := by omega
  have hm2 : m ≤ 0 := by omega
  clear hn hR hv
  go_enter Try.func34, Try.ntmps34
  go_wp2_with fail
  refine hn'.out.mono ?_
  rintro e w1 ⟨rfl, hR1, hk1⟩
  replace hR1 := Lib.hid hR1
  replace hk1 := Lib.hid hk1
  clear hn'
  go_wp2
  go_ret
  exact ⟨rfl, hR1.out, hk1.out⟩
theorem rint_any (g : Nat) (s : RS) (most : Int) (w : World) (hm : most ≤ 9223372036854775807) (hR : Rdr w g s) :
    Calls Try.prog 34 #[.pointer (some ⟨g, 0, none⟩), .int .i64 most] w fun e w' => e = .returned (.int .i64 ((get s most.toNat).2 : Int)) ∧ Rdr w' g (get s most.toNat).1 ∧ Kb g w w' := by
  by_cases h : 0 ≤ most
  · obtain ⟨m, rfl⟩ := Int.eq_ofNat_of_zero_le h
    exact rint_nat g s m w (by omega) hR
  · have e : most.toNat = 0 := by omega
    rw [e]
    exact rint_neg g s most w (by omega) hR
/-! ### bytes -/
theorem bytes_short (g : Nat) (l : List UInt8) (n : Nat) (w : World) (hR : Rdr w g (l, 0)) (h : l.length < n) :
    Calls Try.prog 67 #[.pointer (some ⟨g, 0, none⟩), .int .i64 (n : Int)] w fun e w' => e = .returned (.tuple #[.slice none 0 0, .int .i64 4]) ∧ w = w' := by
  obtain ⟨A, c, hb, hr, hcl, hcm⟩ := hR
  have q0 : w.cell? ⟨g, 0, none⟩ = some (.slice A l.length c) := hb.cell 0
  clear hr hb
  go_enter Try.func67, Try.ntmps67
  go_wp2
  go_ret2
  exact ⟨rfl, rfl⟩
set_option maxRecDepth 100000 in
set_option maxHeartbeats 1000000 in
theorem bytes_ok (g : Nat) (l : List UInt8) (n : Nat) (w : World) (hR : Rdr w g (l, 0)) (h : ¬ l.length < n) :
    Calls Try.prog 67 #[.pointer (some ⟨g, 0, none⟩), .int .i64 (n : Int)] w fun e w' => ∃ ac : Option Addr × Nat, e = .returned (.tuple #[.slice ac.1 n ac.2, .int .i64 0]) ∧ RB w' g ac.1 (l.take n) ∧ Rdr w' g (l.drop n, 0) ∧ Kb g w w' := by
  obtain ⟨A, c, hb, hr, hcl, hcm⟩ := hR
  have q0 : w.cell? ⟨g, 0, none⟩ = some (.slice A l.length c) := hb.cell 0
  have hcl : l.length ≤ c := hcl
  have hr : RB w g A l := hr
  have f0 := hb.frozen 0
  have hi : (n : Int) ≤ (l.length : Int) := by omega
  have hnc : n ≤ c := by omega
  have hrd := hr.drop (k := n) (cap := c) (by omega) hcl
  have hrt := hr.take (k := n) (by omega)
  have hdl : (l.drop n).length = l.length - n := List.length_drop
  have hb' := hb
  have key : ∀ v : Value, (∃ A' c', v = .slice A' (l.length - n) c' ∧ RB w g A' (l.drop n) ∧ l.length - n ≤ c' ∧ c' ≤ maxLen) → Rdr (w.setCell ⟨g, 0, none⟩ v) g (l.drop n, 0) ∧ RB (w.setCell ⟨g, 0, none⟩ v) g A (l.take n) ∧ Kb g w (w.setCell ⟨g, 0, none⟩ v) := by
    rintro v ⟨A', c', rfl, h1, h2, h3⟩
    refine ⟨⟨A', c', ?_, h1.setCell (p := ⟨g, 0, none⟩) (Nat.le_refl _) _, by rw [hdl]; exact h2, h3⟩, hrt.setCell (p := ⟨g, 0, none⟩) (Nat.le_refl _) _, (Kb.refl g w).set 0 _⟩
    rw [hdl]
    exact hb'.set_ 0 _
  replace key := Lib.hid key
  replace hdl := Lib.hid hdl
  clear hb hb' hr hrt
  by_cases hcc : c = n
  · subst hcc
    rw [if_pos rfl] at hrd
    have hz : l.length - c = 0 := by omega
    have key2 := Lib.hid (key.out (.slice A 0 0) ⟨A, 0, by rw [hz], hrd, by omega, by unfold maxLen; omega⟩)
    clear key hrd hz
    go_enter Try.func67, Try.ntmps67
    go_wp2
    go_ret2
    exact ⟨_, ⟨_, rfl⟩, key2.out.2.1, key2.out.1, key2.out.2.2⟩
  · rw [if_neg hcc] at hrd
    have key2 := Lib.hid (key.out (.slice (A.map (·.add n)) (l.length - n) (c - n)) ⟨_, _, rfl, hrd, by omega, by omega⟩)
    clear key hrd
    go_enter Try.func67, Try.ntmps67
    go_wp2
    go_ret2
    exact ⟨_, ⟨_, rfl⟩, key2.out.2.1, key2.out.1, key2.out.2.2⟩
/-! ### what is left, and the end -/
theorem left_any (g : Nat) (s : RS) (w : World) (hR : Rdr w g s) :
    Calls Try.prog 35 #[.pointer (some ⟨g, 0, none⟩)] w fun e w' => e = .returned (.int .i64 (s.1.length : Int)) ∧ w = w' := by
  obtain ⟨A, c, hb, hr, hcl, hcm⟩ := hR
  have q0 : w.cell? ⟨g, 0, none⟩ = some (.slice A s.1.length c) := hb.cell 0
  clear hr hb
  go_enter Try.func35, Try.ntmps35
  go_wp2
  go_ret
  exact ⟨rfl, rfl⟩
theorem end_any (g : Nat) (s : RS) (w : World) (hR : Rdr w g s) :
    Calls Try.prog 38 #[.pointer (some ⟨g, 0, none⟩)] w fun e w' => e = .returned (.int .i64 (ended s : Int)) ∧ w = w' := by
  obtain ⟨A, c, hb, hr, hcl, hcm⟩ := hR
  have q0 : w.cell? ⟨g, 0, none⟩ = some (.slice A s.1.length c) := hb.cell 0
  have q1 : w.cell? ⟨g, 1, none⟩ = some (.int .i64 (s.2 : Int)) := hb.cell 1
  clear hr hb
  by_cases h0 : s.2 = 0
  · have q1' : w.cell? ⟨g, 1, none⟩ = some (.int .i64 0) := by rw [q1, h0]; rfl
    clear q1
    by_cases hl : 0 < s.1.length
    · have hli : (0 : Int) < (s.1.length : Int) := by omega
      have hf := Lib.hid (show ended s = 5 from if_pos ⟨h0, hl⟩)
      clear h0 hl
      go_enter Try.func38, Try.ntmps38
      go_wp2
      go_ret
      rw [hf.out]
      exact ⟨rfl, rfl⟩
    · have hli : ¬ (0 : Int) < (s.1.length : Int) := by omega
      have hf := Lib.hid (show ended s = 0 by unfold ended; rw [if_neg (fun h => hl h.2), h0])
      clear h0 hl
      go_enter Try.func38, Try.ntmps38
      go_wp2
      go_ret
      rw [hf.out]
      exact ⟨rfl, rfl⟩
  · have hci : ((s.2 : Int) == 0) = false := by simp; omega
    have hf := Lib.hid (show ended s = s.2 from if_neg (fun h => h0 h.1))
    clear h0
    go_enter Try.func38, Try.ntmps38
    go_wp2
    go_ret
    rw [hf.out]
    exact ⟨rfl, rfl⟩
theorem left_nil (w : World) : Calls Try.prog 35 #[.pointer none] w fun e w' => e = .returned (.int .i64 0) ∧ w = w' := by
  go_enter Try.func35, Try.ntmps35
  go_wp2
  go_ret
  exact ⟨rfl, rfl⟩
theorem end_nil (w : World) : Calls Try.prog 38 #[.pointer none] w fun e w' => e = .returned (.int .i64 1) ∧ w = w' := by
  go_enter Try.func38, Try.ntmps38
  go_wp2
  go_ret
  exact ⟨rfl, rfl⟩
/-! ### a reader at the begin -/
set_option maxRecDepth 100000 in
set_option maxHeartbeats 1000000 in
theorem read_any (A : Option Addr) (c : Nat) (l : List UInt8) (w : World) (hs : l.length ≤ 100000000000000) (hr : RB w w.heap.size A l) :
    Calls Try.prog 33 #[.slice A l.length c] w fun e w' => ∃ g, e = .returned (.pointer (some ⟨g, 0, none⟩)) ∧ w.heap.size ≤ g ∧ Rdr w' g (l, 0) ∧ Gr w w' := by
  have hown0 := Lib.hid (OB.made (E := 5) (base := w.heap.size) w (Nat.le_refl _))
  have hr0 := Lib.hid (hr.alloc (Nat.le_refl _) (.cells #[] 5))
  have hg0 := Lib.hid ((Gr.refl w).alloc (.cells #[] 5))
  clear hr
  go_enter Try.func33, Try.ntmps33
  go_wp2_with (first
    | (refine wpList_append_bytes _ rfl (.tmp 3) (.tmp 4) 26 rfl w.heap.size 5 Try.underlying26 byteType _ [] rfl (by exact hown0.out) w.heap.size _ _ _ l rfl rfl (by exact hr0.out) (by simp; omega) (by simp) l rfl l.length rfl ?_; intro A1 c1 w1 hown1 hbel1)
    | (refine step_append_bytes _ rfl (.tmp 3) (.tmp 4) 26 rfl w.heap.size 5 Try.underlying26 byteType _ [] rfl (by exact hown0.out) w.heap.size _ _ _ l rfl rfl (by exact hr0.out) (by simp; omega) (by simp) l rfl l.length rfl ?_; intro A1 c1 w1 hown1 hbel1))
  go_ret
  obtain ⟨A2, c2, he, hcl, hcm⟩ := hown1.shape
  cases he
  have hg1 : Gr w w1 := Below.trans hg0.out hbel1
  refine ⟨w1.heap.size, rfl, hg1.size, ⟨A1, c1, Blk.new w1 _ _, hown1.rb.alloc (Nat.le_refl _) _, hcl, hcm⟩, hg1.alloc _⟩
end Vint
end Go.Proofs.Ytcibngbgcnnjnaa

