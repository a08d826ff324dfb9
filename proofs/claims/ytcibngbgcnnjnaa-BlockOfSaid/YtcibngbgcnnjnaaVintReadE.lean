/- The walks of a reader of numbers, texts and sums, further: sums. No condition but sizes. -/
import Derived.Test.YtcibngbgcnnjnaaVintReadD
set_option linter.unusedVariables false
set_option linter.unusedSimpArgs false
namespace Go.Proofs.Ytcibngbgcnnjnaa
open Go Go.RowKit W
namespace Vint
def fold8 (l : List UInt8) : UInt64 := l.foldl (fun x c => x * 256 + c.toUInt64) 0
theorem fold8_snoc (l : List UInt8) (c : UInt8) : fold8 (l ++ [c]) = fold8 l * 256 + c.toUInt64 := by simp [fold8]
theorem or_byte (x : UInt64) (c : UInt8) : x * 256 ||| c.toUInt64 = x * 256 + c.toUInt64 := by
  apply UInt64.toNat_inj.1
  rw [UInt64.toNat_or, UInt64.toNat_add, UInt64.toNat_mul]
  have e : c.toUInt64.toNat = c.toNat := by simp
  have hc := c.toNat_lt
  rw [e]
  show x.toNat * 256 % 18446744073709551616 ||| c.toNat = (x.toNat * 256 % 18446744073709551616 + c.toNat) % 18446744073709551616
  have h1 : x.toNat * 256 % 18446744073709551616 = 2 ^ 8 * (x.toNat % 72057594037927936) := by omega
  rw [h1, ← Nat.two_pow_add_eq_or_of_lt (show c.toNat < 2 ^ 8 from hc)]
  omega
/-- The two words of some bytes. -/
def two (b : List UInt8) : UInt64 × UInt64 := (fold8 (b.take 8), fold8 (b.drop 8))
theorem two_lo {b : List UInt8} {k : Nat} (h : k < b.length) (h8 : k < 8) : two (b.take (k + 1)) = ((two (b.take k)).1 * 256 ||| b[k].toUInt64, (two (b.take k)).2) := by
  unfold two
  rw [or_byte, ← fold8_snoc, List.take_take, List.take_take, Nat.min_eq_right (by omega), Nat.min_eq_right (by omega), List.take_succ_eq_append_getElem h]
  congr 1
  rw [List.drop_eq_nil_of_le (by simp; omega), List.drop_eq_nil_of_le (by simp; omega)]
theorem two_hi {b : List UInt8} {k : Nat} (h : k < b.length) (h8 : ¬ k < 8) : two (b.take (k + 1)) = ((two (b.take k)).1, (two (b.take k)).2 * 256 ||| b[k].toUInt64) := by
  unfold two
  rw [or_byte, ← fold8_snoc, List.take_take, List.take_take, Nat.min_eq_left (by omega), Nat.min_eq_left (by omega), List.take_succ_eq_append_getElem h, List.drop_append_of_le_length (by simp; omega)]
theorem two_word (l : List UInt8) : two (l.take 16) = (word8 l, word8 (l.drop 8)) := by
  unfold two word8
  rw [List.take_take, List.drop_take]
  rfl
/-- What the deed of reading a sum tells and leaves. -/
def cutS (l : List UInt8) : Nat × List UInt8 × (UInt64 × UInt64) := if l.length < 16 then (4, l, (0, 0)) else (0, l.drop 16, (word8 l, word8 (l.drop 8)))
set_option maxRecDepth 100000 in
set_option maxHeartbeats 2000000 in
theorem sum1_any (g b0 bo : Nat) (l : List UInt8) (w : World) (hR : Rdr w g (l, 0)) (hgo : g < bo) (h0 : Blk w b0 70 #[.pointer (some ⟨g, 0, none⟩)]) (h2 : Blk w bo 31 #[.int .u64 0, .int .u64 0]) :
    Calls Try.prog 66 #[.pointer (some ⟨b0, 0, none⟩), .pointer (some ⟨bo, 0, none⟩)] w fun e w' => ∃ (code : Nat) (l' : List UInt8), e = .returned (.int .i64 (code : Int)) ∧ Rdr w' g (l', 0) ∧
      ((code = (cutS l).1 ∧ l' = (cutS l).2.1) ∧ (Blk w' bo 31 #[.int .u64 (n64 (cutS l).2.2.1), .int .u64 (n64 (cutS l).2.2.2)] ∧ ∀ a, Kb g a w → a.heap.size ≤ bo → Kb g a w')) := by
  have q0 := h0.cell 0
  have h2' := Lib.hid h2
  have hR' := Lib.hid hR
  by_cases hc : l.length < 16
  · have hn := Lib.hid (bytes_short g l 16 w hR hc)
    have hcut := Lib.hid (show cutS l = (4, l, (0, 0)) from if_pos hc)
    clear hR h0 h2 hc
    go_enter Try.func66, Try.ntmps66
    go_wp2_with fail
    refine hn.out.mono ?_
    rintro e w1 ⟨rfl, rfl⟩
    go_wp2
    go_loop [14] (fun j => j = .int .i64 0) (fun _ => 0)
    case atStart => rfl
    case round =>
      subst hrel
      go_wp2
      go_ret
      rw [hcut.out]
      exact ⟨4, rfl, l, hR'.out, ⟨rfl, rfl⟩, h2'.out, fun a ha hs => ha⟩
  · have hn := Lib.hid (bytes_ok g l 16 w hR hc)
    have hcut := Lib.hid (show cutS l = (0, l.drop 16, two (l.take 16)) by rw [two_word]; exact if_neg hc)
    have htl : (l.take 16).length = 16 := by rw [List.length_take]; omega
    clear hR h0 h2 hc
    go_enter Try.func66, Try.ntmps66
    go_wp2_with fail
    refine hn.out.mono ?_
    rintro e w1 ⟨⟨A, c⟩, rfl, hr1, hR1, hk1⟩
    have hb2 := Lib.hid (hk1.blk h2'.out (by omega))
    replace hR1 := Lib.hid hR1
    replace hk1 := Lib.hid hk1
    replace hr1 := Lib.hid hr1
    obtain ⟨b, hb⟩ : ∃ b, b = l.take 16 := ⟨_, rfl⟩
    rw [← hb] at hr1 hcut htl
    clear hn hb
    go_wp2
    go_loopw [14] (fun j wr => ∃ k : Nat, k ≤ 16 ∧ j = .int .i64 (k : Int) ∧ Blk wr bo 31 #[.int .u64 (n64 (two (b.take k)).1), .int .u64 (n64 (two (b.take k)).2)] ∧ Rdr wr g (l.drop 16, 0) ∧ RB wr g A b ∧ ∀ a, Kb g a w → a.heap.size ≤ bo → Kb g a wr) (fun j _ => 16 - (intOf j).toNat)
    case atStart => exact ⟨0, by omega, rfl, hb2.out, hR1.out, hr1.out, fun a ha hs => ha.trans hk1.out⟩
    case round =>
      obtain ⟨k, hk, rfl, hbk, hRk, hrk, hkk⟩ := hrel
      clear hb2 hR1 hr1 hk1
      have hkk' := Lib.hid hkk
      by_cases h16 : k < 16
      · have hkb : k < b.length := by omega
        have hki : (k : Int) < 16 := by omega
        obtain ⟨ad, hA, hlt, hc⟩ := hrk.at_ hkb
        subst hA
        have c0 := hbk.cell 0
        have c1 := hbk.cell 1
        have f0 := hbk.frozen 0
        have f1 := hbk.frozen 1
        have hRk' := Lib.hid hRk
        have hrk' := Lib.hid hrk
        have hbk' := Lib.hid hbk
        by_cases h8 : k < 8
        · have h8i : (k : Int) < 8 := by omega
          have hst := Lib.hid (two_lo hkb h8)
          generalize two (b.take k) = p at *
          generalize b[k] = d at *
          have hbn : Hid (Blk (wr.setCell ⟨bo, 0, none⟩ (.int .u64 (n64 (p.1 * 256 ||| d.toUInt64)))) bo 31 #[.int .u64 (n64 (p.1 * 256 ||| d.toUInt64)), .int .u64 (n64 p.2)]) := Lib.hid (hbk.set_ 0 _)
          clear hbk hRk hrk hkk
          go_wp2
          go_roundw
          case rel => exact ⟨k + 1, by omega, by go_num, by rw [hst.out]; exact hbn.out, hRk'.out.far hgo _ _, hrk'.out.setCell (p := ⟨bo, 0, none⟩) (by show g ≤ bo; omega) _, fun a ha hs => (hkk'.out a ha hs).far hs _ _⟩
          case measure => simp [intOf]; omega
        · have h8i : ¬ (k : Int) < 8 := by omega
          have hst := Lib.hid (two_hi hkb h8)
          generalize two (b.take k) = p at *
          generalize b[k] = d at *
          have hbn : Hid (Blk (wr.setCell ⟨bo, 1, none⟩ (.int .u64 (n64 (p.2 * 256 ||| d.toUInt64)))) bo 31 #[.int .u64 (n64 p.1), .int .u64 (n64 (p.2 * 256 ||| d.toUInt64))]) := Lib.hid (hbk.set_ 1 _)
          clear hbk hRk hrk hkk
          go_wp2
          go_roundw
          case rel => exact ⟨k + 1, by omega, by go_num, by rw [hst.out]; exact hbn.out, hRk'.out.far hgo _ _, hrk'.out.setCell (p := ⟨bo, 1, none⟩) (by show g ≤ bo; omega) _, fun a ha hs => (hkk'.out a ha hs).far hs _ _⟩
          case measure => simp [intOf]; omega
      · have hki : ¬ (k : Int) < 16 := by omega
        have hfull : Hid (b.take k = b) := Lib.hid (List.take_of_length_le (by omega))
        rw [hfull.out] at hbk
        have hbk' := Lib.hid hbk
        have hRk' := Lib.hid hRk
        clear hbk hRk hrk hkk
        go_wp2
        go_ret
        rw [hcut.out]
        exact ⟨0, rfl, _, hRk'.out, ⟨rfl, rfl⟩, hbk'.out, hkk'.out⟩
theorem enters_sum1 (caps : Array Value) (w : World) : (callFunc 66 caps).run Try.prog w = .ok (.enter 66 caps) w :=
  Go.Proofs.enters_of Try.func66 (by kernel_rfl) rfl caps w
set_option maxRecDepth 100000 in
set_option maxHeartbeats 2000000 in
theorem rsum_any (g : Nat) (s : RS) (w : World) (hR : Rdr w g s) :
    Calls Try.prog 56 #[.pointer (some ⟨g, 0, none⟩)] w fun e w' => e = .returned (.agg #[.int .u64 (n64 (getSum s).2.1), .int .u64 (n64 (getSum s).2.2)]) ∧ Rdr w' g (getSum s).1 ∧ Kb g w w' := by
  have hlt := hR.lt
  have hgA := ((Gr.refl w).alloc (.cells #[.pointer (some ⟨g, 0, none⟩)] 70)).alloc (.cells #[.int .u64 0, .int .u64 0] 31)
  have hRA := hR.gr hgA
  have h0 := (Blk.new w 70 #[.pointer (some ⟨g, 0, none⟩)]).alloc (.cells #[.int .u64 0, .int .u64 0] 31)
  have h2 := Blk.new (w.alloc (.cells #[.pointer (some ⟨g, 0, none⟩)] 70)) 31 #[.int .u64 0, .int .u64 0]
  rw [World.size_alloc] at h2
  obtain ⟨wA, hwA⟩ : ∃ wA, wA = (w.alloc (.cells #[.pointer (some ⟨g, 0, none⟩)] 70)).alloc (.cells #[.int .u64 0, .int .u64 0] 31) := ⟨_, rfl⟩
  rw [← hwA] at hgA hRA h0 h2
  have hwA' := Lib.hid hwA
  have hszA : w.heap.size + 1 < wA.heap.size := h2.lt
  have hkA := Lib.hid ((Kb.refl g w).gr hgA)
  by_cases he : s.2 = 0
  · obtain ⟨l, er⟩ := s
    obtain rfl : er = 0 := he
    have hgt : Hid (getSum (l, 0) = ((if (cutS l).1 = 0 then (cutS l).2.1 else [], (cutS l).1), (cutS l).2.2)) := by
      unfold getSum cutS
      rw [if_pos rfl]
      split <;> exact Lib.hid rfl
    have ht1 := sum1_any g w.heap.size (w.heap.size + 1) l wA hRA (by omega) h0 h2
    have hwh := Lib.hid (when_any g l 66 _ _ hRA _ (enters_sum1 _) ht1)
    clear hR hRA h0 h2 hgA hwA ht1
    go_enter Try.func56, Try.ntmps56
    go_wp2_with fail
    rw [← hwA'.out]
    refine hwh.out.mono ?_
    rintro e w4 ⟨rfl, code, l', w3, hR3, ⟨⟨hc, hl'⟩, hb, hk⟩, hwd⟩
    have hb4 := hwd.kb.blk hb (by omega)
    have hR4 := Lib.hid (hwd.rdr hR3)
    have hk4 := Lib.hid ((hk w hkA.out (by omega)).trans hwd.kb)
    have hv : Hid ((cutS l).1 = code ∧ (cutS l).2.1 = l') := Lib.hid ⟨hc.symm, hl'.symm⟩
    obtain ⟨o, ho⟩ : ∃ o, o = (cutS l).2.2 := ⟨_, rfl⟩
    rw [← ho] at hb4
    have ho' := Lib.hid ho
    obtain ⟨f0, d0, f1, d1', hb5⟩ := hb4.pair (.int .u64 (n64 o.1)) (.int .u64 (n64 o.2))
    have d1 := hb4.cell 1
    have z0 := hb5.cell 0
    have z1 := hb5.cell 1
    clear hb hb4 hb5 hk hwd hR3 hc hl' hwh ho
    go_wp2
    refine bodyPost_ret (v := .agg #[.int .u64 (n64 o.1), .int .u64 (n64 o.2)]) (by simp [results, Try.results56, go_sem, z0, z1]) rfl ?_
    rw [hgt.out, hv.out.1, hv.out.2, ← ho'.out]
    exact ⟨rfl, (hR4.out.far (by omega) _ _).far (by omega) _ _, (hk4.out.far (by omega) _ _).far (by omega) _ _⟩
  · have hwh := Lib.hid (when_err g s (.func (.func 66) #[] #[.pointer (some ⟨w.heap.size, 0, none⟩), .pointer (some ⟨w.heap.size + 1, 0, none⟩)]) wA hRA he)
    have hgt : Hid (getSum s = (s, (0, 0))) := Lib.hid (if_neg he)
    have hR2 := Lib.hid hRA
    obtain ⟨f0, d0, f1, d1', hb5⟩ := h2.pair (.int .u64 0) (.int .u64 0)
    have d1 := h2.cell 1
    have z0 := hb5.cell 0
    have z1 := hb5.cell 1
    clear hR hRA h0 h2 hgA hwA he hb5
    go_enter Try.func56, Try.ntmps56
    go_wp2_with fail
    rw [← hwA'.out]
    refine hwh.out.mono ?_
    rintro e w4 ⟨rfl, rfl⟩
    clear hwh
    go_wp2
    refine bodyPost_ret (v := .agg #[.int .u64 0, .int .u64 0]) (by simp [results, Try.results56, go_sem, z0, z1]) rfl ?_
    rw [hgt.out]
    exact ⟨rfl, (hR2.out.far (by omega) _ _).far (by omega) _ _, (hkA.out.far (by omega) _ _).far (by omega) _ _⟩
/-! ### a reader that nobody made -/
end Vint
end Go.Proofs.Ytcibngbgcnnjnaa

