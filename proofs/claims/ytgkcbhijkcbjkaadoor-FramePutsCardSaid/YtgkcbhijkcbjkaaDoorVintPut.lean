/- The walks of putting numbers, texts and sums as bytes. No condition but sizes. -/
import Derived.Test.YtgkcbhijkcbjkaaDoorMemB
import Derived.Test.YtgkcbhijkcbjkaaDoorVintSpec
import Derived.Test.YtgkcbhijkcbjkaaDoorProg
set_option linter.unusedVariables false
set_option linter.unusedSimpArgs false
namespace Go.Proofs.YtgkcbhijkcbjkaaDoor
open Go Go.RowKit W
namespace Vint
theorem byteType : ByteType Tryd.prog 5 := ⟨by kernel_rfl, by kernel_rfl⟩
theorem low7 (n : UInt64) : n.toUInt8 ||| 128 = UInt8.ofNat (n.toNat % 128 + 128) := by
  apply UInt8.toNat_inj.1
  rw [UInt8.toNat_or]
  have e : n.toUInt8.toNat = n.toNat % 256 := by simp
  rw [e]
  have h : ∀ k, k < 256 → k ||| 128 = k % 128 + 128 := by decide +kernel
  have h2 := h (n.toNat % 256) (by omega)
  show n.toNat % 256 ||| 128 = _
  rw [h2, UInt8.toNat_ofNat']
  omega
theorem last7 (n : UInt64) (h : n.toNat < 128) : n.toUInt8 = UInt8.ofNat n.toNat := by
  apply UInt8.toNat_inj.1
  simp
set_option maxHeartbeats 1000000 in
theorem vnum_any (A : Option Addr) (c : Nat) (l : List UInt8) (n0 : UInt64) (w : World) (hs : l.length ≤ 100000000000000) (hr : RB w w.heap.size A l) :
    Calls Tryd.prog 47 #[.slice A l.length c, .int .u64 (n64 n0)] w (Out 5 w (l ++ num n0.toNat)) := by
  have hn0 : (num n0.toNat).length ≤ 10 := num_length 9 _ (Nat.lt_of_lt_of_le n0.toNat_lt (by decide))
  have hown0 := Lib.hid (OB.made (E := 5) (base := w.heap.size) w (Nat.le_refl _))
  have hr0 := Lib.hid (hr.alloc (Nat.le_refl _) (.cells #[] 5))
  have hg0 := Lib.hid ((Gr.refl w).alloc (.cells #[] 5))
  clear hr
  go_enter Tryd.func47, Tryd.ntmps47
  go_wp2_with (first
    | (refine wpList_append_bytes _ rfl (.tmp 6) (.tmp 7) 22 rfl w.heap.size 5 Tryd.underlying22 byteType _ [] rfl (by exact hown0.out) w.heap.size _ _ _ l rfl rfl (by exact hr0.out) (by simp; omega) (by simp) l rfl l.length rfl ?_; intro A1 c1 w1 hown1 hbel1)
    | (refine step_append_bytes _ rfl (.tmp 6) (.tmp 7) 22 rfl w.heap.size 5 Tryd.underlying22 byteType _ [] rfl (by exact hown0.out) w.heap.size _ _ _ l rfl rfl (by exact hr0.out) (by simp; omega) (by simp) l rfl l.length rfl ?_; intro A1 c1 w1 hown1 hbel1))
  go_loopw [1, 5] (fun x b wr => ∃ (n : UInt64) (o : List UInt8), x = .int .u64 (n64 n) ∧ OB 5 wr w.heap.size b o ∧ Gr w wr ∧ o.length ≤ l.length + 10 ∧ Hid (o ++ num n.toNat = l ++ num n0.toNat)) (fun x _ _ => (intOf x).toNat)
  case atStart => exact ⟨n0, l, rfl, hown1, Below.trans hg0.out hbel1, by omega, Lib.hid rfl⟩
  case round =>
    obtain ⟨n, o, rfl, hown, hg, hol, ho⟩ := hrel
    clear hown1 hbel1 hown0 hr0 hg0
    obtain ⟨A0, c0, rfl, hcl, hcm⟩ := hown.shape
    have hgs := hg.size
    have hon : o.length + (num n.toNat).length = l.length + (num n0.toNat).length := by
      have := congrArg List.length ho.out
      rwa [List.length_append, List.length_append] at this
    have hnp := num_pos n.toNat
    by_cases h : 128 ≤ n.toNat
    · have hn : (128 : Int) ≤ n64 n := by unfold n64; omega
      have ho2 : Hid ((o ++ [n.toUInt8 ||| 128]) ++ num (n / 128).toNat = l ++ num n0.toNat) := by
        have h1 := ho.out
        rw [num_big (by omega)] at h1
        rw [low7, UInt64.toNat_div, List.append_assoc]
        exact Lib.hid h1
      have hown2 := Lib.hid (hown.alloc (.cells #[.int .u8 (n8 (n.toUInt8 ||| 128))] 5))
      have hg2 := Lib.hid (Below.alloc hg hgs (.cells #[.int .u8 (n8 (n.toUInt8 ||| 128))] 5))
      have hrb := Lib.hid (RB.new1 wr 5 (n.toUInt8 ||| 128))
      have hmeas : (intOf (.int .u64 (n64 (n / 128)))).toNat < (intOf (.int .u64 (n64 n))).toNat := by
        simp [intOf, n64, UInt64.toNat_div]
        omega
      replace hmeas := Lib.hid hmeas
      clear hown hg ho
      go_wp2_with (first
    | (refine wpList_append_bytes _ rfl (.tmp 11) (.tmp 15) 22 rfl w.heap.size 5 Tryd.underlying22 byteType _ o rfl (by exact hown2.out) (wr.heap.size + 1) _ _ _ [n.toUInt8 ||| 128] rfl rfl (by exact hrb.out) (by simp; omega) (by simp; omega) (o ++ [n.toUInt8 ||| 128]) rfl (o ++ [n.toUInt8 ||| 128]).length rfl ?_; intro A3 c3 w3 hown4 hbel4)
    | (refine step_append_bytes _ rfl (.tmp 11) (.tmp 15) 22 rfl w.heap.size 5 Tryd.underlying22 byteType _ o rfl (by exact hown2.out) (wr.heap.size + 1) _ _ _ [n.toUInt8 ||| 128] rfl rfl (by exact hrb.out) (by simp; omega) (by simp; omega) (o ++ [n.toUInt8 ||| 128]) rfl (o ++ [n.toUInt8 ||| 128]).length rfl ?_; intro A3 c3 w3 hown4 hbel4))
      go_roundw
      case rel =>
        have h4 := hown4
        rw [List.length_append] at h4
        exact ⟨n / 128, _, by go_num, h4, Below.trans hg2.out hbel4, by simp; omega, ho2⟩
      case measure => exact hmeas.out
    · have hn : ¬ (128 : Int) ≤ n64 n := by unfold n64; omega
      have ho2 : Hid (o ++ [n.toUInt8] = l ++ num n0.toNat) := by
        have h1 := ho.out
        rw [num_small (by omega)] at h1
        rw [last7 n (by omega)]
        exact Lib.hid h1
      have hown2 := Lib.hid (hown.alloc (.cells #[.int .u8 (n8 (n.toUInt8))] 5))
      have hg2 := Lib.hid (Below.alloc hg hgs (.cells #[.int .u8 (n8 (n.toUInt8))] 5))
      have hrb := Lib.hid (RB.new1 wr 5 n.toUInt8)
      clear hown hg ho
      go_wp2_with (first
    | (refine wpList_append_bytes _ rfl (.tmp 19) (.tmp 22) 22 rfl w.heap.size 5 Tryd.underlying22 byteType _ o rfl (by exact hown2.out) (wr.heap.size + 1) _ _ _ [n.toUInt8] rfl rfl (by exact hrb.out) (by simp; omega) (by simp; omega) (o ++ [n.toUInt8]) rfl (o ++ [n.toUInt8]).length rfl ?_; intro A3 c3 w3 hown4 hbel4)
    | (refine step_append_bytes _ rfl (.tmp 19) (.tmp 22) 22 rfl w.heap.size 5 Tryd.underlying22 byteType _ o rfl (by exact hown2.out) (wr.heap.size + 1) _ _ _ [n.toUInt8] rfl rfl (by exact hrb.out) (by simp; omega) (by simp; omega) (o ++ [n.toUInt8]) rfl (o ++ [n.toUInt8]).length rfl ?_; intro A3 c3 w3 hown4 hbel4))
      go_ret
      rw [← ho2.out]
      exact ⟨A3, c3, by rw [List.length_append]; rfl, hown4, Below.trans hg2.out hbel4⟩
set_option maxHeartbeats 1000000 in
theorem vtext_any (A : Option Addr) (c : Nat) (l s : List UInt8) (w : World) (hs : l.length ≤ 10000000000000) (hs2 : s.length ≤ 10000000000000) (hr : RB w w.heap.size A l) :
    Calls Tryd.prog 33 #[.slice A l.length c, str s] w (Out 5 w (l ++ text s)) := by
  have hsn : (UInt64.ofNat s.length).toNat = s.length := by rw [UInt64.toNat_ofNat']; omega
  have hnl : (num s.length).length ≤ 10 := num_length 9 _ (Nat.lt_of_le_of_lt hs2 (by decide))
  have hc := Lib.hid (by have h := vnum_any A c l (UInt64.ofNat s.length) w (by omega) hr; rw [hsn] at h; exact h : Calls Tryd.prog 47 #[.slice A l.length c, .int .u64 (n64 (UInt64.ofNat s.length))] w (Out 5 w (l ++ num s.length)))
  clear hr hsn
  go_enter Tryd.func33, Tryd.ntmps33
  go_wp2_with fail
  refine hc.out.mono ?_
  rintro e w1 ⟨A1, c1, rfl, hown1, hg1⟩
  have hsz := hg1.size
  clear hc
  obtain ⟨L, hL⟩ : ∃ L, L = l ++ num s.length := ⟨_, rfl⟩
  have hLl : L.length ≤ l.length + 10 := by rw [hL, List.length_append]; omega
  have hfin : Hid (l ++ text s = L ++ s) := by rw [hL]; unfold text; rw [List.append_assoc]; exact Lib.hid rfl
  rw [← hL] at hown1 ⊢
  clear hL
  go_wp2_with (first
    | (refine wpList_append_text rfl (.tmp 9) (.tmp 10) 22 9 rfl w.heap.size 5 Tryd.underlying22 Tryd.underlying9 byteType _ L rfl (by exact hown1) s rfl (by omega) (by omega) (L ++ s) rfl (L ++ s).length rfl ?_; intro A3 c3 w3 hown4 hbel4)
    | (refine step_append_text rfl (.tmp 9) (.tmp 10) 22 9 rfl w.heap.size 5 Tryd.underlying22 Tryd.underlying9 byteType _ L rfl (by exact hown1) s rfl (by omega) (by omega) (L ++ s) rfl (L ++ s).length rfl ?_; intro A3 c3 w3 hown4 hbel4))
  go_ret
  rw [hfin.out]
  exact ⟨A3, c3, by rw [List.length_append]; rfl, hown4, Below.trans hg1 hbel4⟩
/-! ### sums -/
theorem shr_be (z : UInt64) (i : Nat) (h : i < 8) : UInt8.ofInt (n64 z / 2 ^ (56 - 8 * i)) = UInt8.ofNat (z.toNat / 256 ^ (7 - i)) := by
  have e2 : (2 : Nat) ^ (56 - 8 * i) = 256 ^ (7 - i) := by rw [show 56 - 8 * i = 8 * (7 - i) by omega, Nat.pow_mul]
  have e : n64 z / 2 ^ (56 - 8 * i) = ((z.toNat / 2 ^ (56 - 8 * i) : Nat) : Int) := by unfold n64; simp
  rw [e, e2, w_ofNat_u8]
def bep (z : UInt64) (k : Nat) : List UInt8 := (List.range k).map fun i => UInt8.ofNat (z.toNat / 256 ^ (7 - i))
theorem bep_succ (z : UInt64) (k : Nat) : bep z (k + 1) = bep z k ++ [UInt8.ofNat (z.toNat / 256 ^ (7 - k))] := by simp [bep, List.range_succ]
theorem bep_length (z : UInt64) (k : Nat) : (bep z k).length = k := by simp [bep]
theorem fl_length (ws : List UInt64) (k : Nat) : ((ws.take k).flatMap be8).length ≤ 8 * k := by
  have : ∀ l : List UInt64, (l.flatMap be8).length = 8 * l.length := by
    intro l
    induction l with
    | nil => rfl
    | cons x l ih => rw [List.flatMap_cons, List.length_append, ih, be8_length, List.length_cons]; omega
  rw [this, List.length_take]
  omega
theorem fl_succ {ws : List UInt64} {k : Nat} (h : k < ws.length) : (ws.take (k + 1)).flatMap be8 = (ws.take k).flatMap be8 ++ bep ws[k] 8 := by
  rw [List.take_succ_eq_append_getElem h, List.flatMap_append]
  simp [bep, be8]
end Vint
end Go.Proofs.YtgkcbhijkcbjkaaDoor

