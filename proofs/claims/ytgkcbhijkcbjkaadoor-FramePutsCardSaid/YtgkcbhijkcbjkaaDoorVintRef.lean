/- The walks of the reference's numbers, texts and sums as bytes. No condition but sizes. -/
import Derived.Test.YtgkcbhijkcbjkaaDoorVintPut
set_option linter.unusedVariables false
set_option linter.unusedSimpArgs false
namespace Go.Proofs.YtgkcbhijkcbjkaaDoor
open Go Go.RowKit W
namespace Vint
theorem rest7 (n : UInt64) : (n % 128).toUInt8 = UInt8.ofNat (n.toNat % 128) := by
  apply UInt8.toNat_inj.1
  simp [UInt64.toNat_mod]
theorem rest7up (n : UInt64) : (n % 128).toUInt8 + 128 = UInt8.ofNat (n.toNat % 128 + 128) := by
  apply UInt8.toNat_inj.1
  rw [UInt8.toNat_add, rest7]
  simp
set_option maxHeartbeats 2000000 in
theorem refNum_any (n0 : UInt64) (w : World) : Calls Tryd.prog 35 #[.int .u64 (n64 n0)] w fun e w' => e = .returned (str (num n0.toNat)) ∧ Gr w w' := by
  have hn0 : (num n0.toNat).length ≤ 10 := num_length 9 _ (Nat.lt_of_lt_of_le n0.toNat_lt (by decide))
  have hown0 := Lib.hid (OB.made (E := 5) (base := w.heap.size) w (Nat.le_refl _))
  have hg0 := Lib.hid ((Gr.refl w).alloc (.cells #[] 5))
  have hst : n0.toNat < 128 ^ 10 := Nat.lt_of_lt_of_le n0.toNat_lt (by decide)
  go_enter Tryd.func35, Tryd.ntmps35
  go_wp2
  go_loopw [0, 3, 4] (fun x b j wr => ∃ (n : UInt64) (o : List UInt8) (i : Nat), i ≤ 10 ∧ x = .int .u64 (n64 n) ∧ j = .int .i64 (i : Int) ∧ OB 5 wr w.heap.size b o ∧ Gr w wr ∧ o.length ≤ 10 ∧ n.toNat < 128 ^ (10 - i) ∧ (i = 0 ∨ 0 < n.toNat) ∧ Hid (o ++ num n.toNat = num n0.toNat)) (fun _ _ j _ => 10 - (intOf j).toNat)
  case atStart => exact ⟨n0, [], 0, by omega, rfl, rfl, hown0.out, hg0.out, by simp, hst, .inl rfl, Lib.hid rfl⟩
  case round =>
    obtain ⟨n, o, i, hi, rfl, rfl, hown, hg, hol, hlt, hpos, ho⟩ := hrel
    clear hown0 hg0 hst
    obtain ⟨A0, c0, rfl, hcl, hcm⟩ := hown.shape
    have hgs := hg.size
    have hon : o.length + (num n.toNat).length = (num n0.toNat).length := by
      have := congrArg List.length ho.out
      rwa [List.length_append] at this
    have hnp := num_pos n.toNat
    by_cases h10 : i < 10
    · have h10i : (i : Int) < 10 := by omega
      by_cases h : n.toNat < 128
      · have hz : (n64 (n / 128) == 0) = true := by simp [n64, UInt64.toNat_div]; omega
        have ho2 : Hid (o ++ [(n % 128).toUInt8] = num n0.toNat) := by
          have h1 := ho.out
          rw [num_small h] at h1
          rw [rest7, Nat.mod_eq_of_lt h]
          exact Lib.hid h1
        have hown2 := Lib.hid (hown.alloc (.cells #[.int .u8 (n8 ((n % 128).toUInt8))] 5))
        have hg2 := Lib.hid (Below.alloc hg hgs (.cells #[.int .u8 (n8 ((n % 128).toUInt8))] 5))
        have hrb := Lib.hid (RB.new1 wr 5 (n % 128).toUInt8)
        clear hown hg ho hlt hpos
        go_wp2_with (first
          | (refine wpList_append_bytes _ rfl (.tmp 18) (.tmp 20) 22 rfl w.heap.size 5 Tryd.underlying22 byteType _ o rfl (by exact hown2.out) (wr.heap.size + 1) _ _ _ [(n % 128).toUInt8] rfl rfl (by exact hrb.out) (by simp; omega) (by simp; omega) (o ++ [(n % 128).toUInt8]) rfl (o ++ [(n % 128).toUInt8]).length rfl ?_; intro A3 c3 w3 hown4 hbel4; have hcv := run_bytes_string (P := Tryd.prog) w3 22 9 5 Tryd.underlying22 byteType.1 Tryd.underlying9 _ A3 c3 (o.length + 1) (o ++ [(n % 128).toUInt8]) (by simp) hown4.rb)
          | (refine step_append_bytes _ rfl (.tmp 18) (.tmp 20) 22 rfl w.heap.size 5 Tryd.underlying22 byteType _ o rfl (by exact hown2.out) (wr.heap.size + 1) _ _ _ [(n % 128).toUInt8] rfl rfl (by exact hrb.out) (by simp; omega) (by simp; omega) (o ++ [(n % 128).toUInt8]) rfl (o ++ [(n % 128).toUInt8]).length rfl ?_; intro A3 c3 w3 hown4 hbel4; have hcv := run_bytes_string (P := Tryd.prog) w3 22 9 5 Tryd.underlying22 byteType.1 Tryd.underlying9 _ A3 c3 (o.length + 1) (o ++ [(n % 128).toUInt8]) (by simp) hown4.rb))
        go_ret
        rw [← ho2.out]
        exact ⟨rfl, Below.trans hg2.out hbel4⟩
      · have hz : (n64 (n / 128) == 0) = false := by simp [n64, UInt64.toNat_div]; omega
        have ho2 : Hid ((o ++ [(n % 128).toUInt8 + 128]) ++ num (n / 128).toNat = num n0.toNat) := by
          have h1 := ho.out
          rw [num_big h] at h1
          rw [rest7up, UInt64.toNat_div, List.append_assoc]
          exact Lib.hid h1
        have hlt2 : (n / 128).toNat < 128 ^ (10 - (i + 1)) := by
          rw [UInt64.toNat_div]
          have e : 10 - i = 10 - (i + 1) + 1 := by omega
          rw [e, Nat.pow_succ] at hlt
          show n.toNat / 128 < _
          exact Nat.div_lt_of_lt_mul (by rw [Nat.mul_comm]; exact hlt)
        have hpos2 : 0 < (n / 128).toNat := by rw [UInt64.toNat_div]; show 0 < n.toNat / 128; omega
        replace hlt2 := Lib.hid hlt2
        replace hpos2 := Lib.hid hpos2
        have hown2 := Lib.hid (hown.alloc (.cells #[.int .u8 (n8 ((n % 128).toUInt8 + 128))] 5))
        have hg2 := Lib.hid (Below.alloc hg hgs (.cells #[.int .u8 (n8 ((n % 128).toUInt8 + 128))] 5))
        have hrb := Lib.hid (RB.new1 wr 5 ((n % 128).toUInt8 + 128))
        have hnum2 := Lib.hid (num_pos (n / 128).toNat)
        clear hown hg ho hlt hpos
        go_wp2_with (first
          | (refine wpList_append_bytes _ rfl (.tmp 24) (.tmp 27) 22 rfl w.heap.size 5 Tryd.underlying22 byteType _ o rfl (by exact hown2.out) (wr.heap.size + 1) _ _ _ [(n % 128).toUInt8 + 128] rfl rfl (by exact hrb.out) (by simp; omega) (by simp; omega) (o ++ [(n % 128).toUInt8 + 128]) rfl (o ++ [(n % 128).toUInt8 + 128]).length rfl ?_; intro A3 c3 w3 hown4 hbel4)
          | (refine step_append_bytes _ rfl (.tmp 24) (.tmp 27) 22 rfl w.heap.size 5 Tryd.underlying22 byteType _ o rfl (by exact hown2.out) (wr.heap.size + 1) _ _ _ [(n % 128).toUInt8 + 128] rfl rfl (by exact hrb.out) (by simp; omega) (by simp; omega) (o ++ [(n % 128).toUInt8 + 128]) rfl (o ++ [(n % 128).toUInt8 + 128]).length rfl ?_; intro A3 c3 w3 hown4 hbel4))
        go_roundw
        case rel =>
          have h4 := hown4
          rw [List.length_append] at h4
          exact ⟨n / 128, _, i + 1, by omega, rfl, by go_num, h4, Below.trans hg2.out hbel4, by simp; omega, hlt2.out, .inr hpos2.out, ho2⟩
        case measure => simp [intOf]; omega
    · exfalso
      obtain rfl : i = 10 := by omega
      have : n.toNat < 1 := hlt
      omega
theorem refText_any (s : List UInt8) (w : World) (hs : s.length ≤ 1099511627776) : Calls Tryd.prog 36 #[str s] w fun e w' => e = .returned (str (text s)) ∧ Gr w w' := by
  have hsn : (UInt64.ofNat s.length).toNat = s.length := by rw [UInt64.toNat_ofNat']; omega
  have hnl : (num s.length).length ≤ 10 := num_length 9 _ (Nat.lt_of_le_of_lt hs (by decide))
  have hc := Lib.hid (by have h := refNum_any (UInt64.ofNat s.length) w; rw [hsn] at h; exact h : Calls Tryd.prog 35 #[.int .u64 (n64 (UInt64.ofNat s.length))] w fun e w' => e = .returned (str (num s.length)) ∧ Gr w w')
  have ht : Hid (text s = num s.length ++ s) := Lib.hid rfl
  generalize num s.length = L at *
  clear hsn
  go_enter Tryd.func36, Tryd.ntmps36
  go_wp2_with fail
  refine hc.out.mono ?_
  rintro e w1 ⟨rfl, hg1⟩
  replace hg1 := Lib.hid hg1
  clear hc
  go_wp2
  go_ret
  rw [ht.out]
  exact ⟨rfl, hg1.out⟩
end Vint
end Go.Proofs.YtgkcbhijkcbjkaaDoor

