/- The walks of putting numbers, texts and sums as bytes. No condition but sizes. -/
import Derived.Test.YtcibngbgcnnjnaaMemB
import Derived.Test.YtcibngbgcnnjnaaVintSpec
import Derived.Test.YtcibngbgcnnjnaaProg
set_option linter.unusedVariables false
set_option linter.unusedSimpArgs false
namespace Go.Proofs.Ytcibngbgcnnjnaa
open Go Go.RowKit W
namespace Vint
theorem byteType : ByteType Try.prog 5 := ⟨by kernel_rfl, by kernel_rfl⟩
theorem low7 (n : UInt64) : n.toUInt8 ||| 128 = UInt8.ofNat (n.toNat % 128 + 128) := by
  apply UInt8.toNat_inj.1
  rw [UInt8.toNat_or]
  have e : n.toUInt8.toNat = n.toNat % 256 := by simp
  rw [e]
  have h : ∀ k, k < 256 → k ||| 128 = k % 128 + 128 := by decide +kernel
  have h2 := h (n.toNat % 256) (by omega)
  show n.toNat % 256 ||| 128 = _
  rw [h2, UInt8.toNat_ofNat']
  omega
theorem last7 (n : UInt64) (h : n.toNat < 128) : n.toUInt8 = UInt8.ofNat n.toNat := by
  apply UInt8.toNat_inj.1
  simp
set_option maxRecDepth 100000 in
set_option maxHeartbeats 1000000 in
theorem vnum_any (A : Option Addr) (c : Nat) (l : List UInt8) (n0 : UInt64) (w : World) (hs : l.length ≤ 100000000000000) (hr : RB w w.heap.size A l) :
    Calls Try.prog 43 #[.slice A l.length c, .int .u64 (n64 n0)] w (Out 5 w (l ++ num n0.toNat)) := by
  have hn0 : (num n0.toNat).length ≤ 10 := num_length 9 _ (Nat.lt_of_lt_of_le n0.toNat_lt (by decide))
  have hown0 := Lib.hid (OB.made (E := 5) (base := w.heap.size) w (Nat.le_refl _))
  have hr0 := Lib.hid (hr.alloc (Nat.le_refl _) (.cells #[] 5))
  have hg0 := Lib.hid ((Gr.refl w).alloc (.cells #[] 5))
  clear hr
  go_enter Try.func43, Try.ntmps43
  go_wp2_with (first
    | (refine wpList_append_bytes _ rfl (.tmp 6) (.tmp 7) 26 rfl w.heap.size 5 Try.underlying26 byteType _ [] rfl (by exact hown0.out) w.heap.size _ _ _ l rfl rfl (by exact hr0.out) (by simp; omega) (by simp) l rfl l.length rfl ?_; intro A1 c1 w1 hown1 hbel1)
    | (refine step_append_bytes _ rfl (.tmp 6) (.tmp 7) 26 rfl w.heap.size 5 Try.underlying26 byteType _ [] rfl (by exact hown0.out) w.heap.size _ _ _ l rfl rfl (by exact hr0.out) (by simp; omega) (by simp) l rfl l.length rfl ?_; intro A1 c1 w1 hown1 hbel1))
  go_loopw [1, 5] (fun x b wr => ∃ (n : UInt64) (o : List UInt8), x = .int .u64 (n64 n) ∧ OB 5 wr w.heap.size b o ∧ Gr w wr ∧ o.length ≤ l.length + 10 ∧ Hid (o ++ num n.toNat = l ++ num n0.toNat)) (fun x _ _ => (intOf x).toNat)
  case atStart => exact ⟨n0, l, rfl, hown1, Below.trans hg0.out hbel1, by omega, Lib.hid rfl⟩
  case round =>
    obtain ⟨n, o, rfl, hown, hg, hol, ho⟩ := hrel
    clear hown1 hbel1 hown0 hr0 hg0
    obtain ⟨A0, c0, rfl, hcl, hcm⟩ := hown.shape
    have hgs := hg.size
    have hon : o.length + (num n.toNat).length = l.length + (num n0.toNat).length := by
      have := congrArg List.length ho.out
      rwa [List.length_append, List.length_append] at this
    have hnp := num_pos n.toNat
    by_cases h : 128 ≤ n.toNat
    · have hn : (128 : Int) ≤ n64 n := by unfold n64; omega
      have ho2 : Hid ((o ++ [n.toUInt8 ||| 128]) ++ num (n / 128).toNat = l ++ num n0.toNat) := by
        have h1 := ho.out
        rw [num_big (by omega)] at h1
        rw [low7, UInt64.toNat_div, List.append_assoc]
        exact Lib.hid h1
      have hown2 := Lib.hid (hown.alloc (.cells #[.int .u8 (n8 (n.toUInt8 ||| 128))] 5))
      have hg2 := Lib.hid (Below.alloc hg hgs (.cells #[.int .u8 (n8 (n.toUInt8 ||| 128))] 5))
      have hrb := Lib.hid (RB.new1 wr 5 (n.toUInt8 ||| 128))
      have hmeas : (intOf (.int .u64 (n64 (n / 128)))).toNat < (intOf (.int .u64 (n64 n))).toNat := by
        simp [intOf, n64, UInt64.toNat_div]
        omega
      replace hmeas := Lib.hid hmeas
      clear hown hg ho
      go_wp2_with (first
    | (refine wpList_append_bytes _ rfl (.tmp 11) (.tmp 15) 26 rfl w.heap.size 5 Try.underlying26 byteType _ o rfl (by exact hown2.out) (wr.heap.size + 1) _ _ _ [n.toUInt8 ||| 128] rfl rfl (by exact hrb.out) (by simp; omega) (by simp; omega) (o ++ [n.toUInt8 ||| 128]) rfl (o ++ [n.toUInt8 ||| 128]).length rfl ?_; intro A3 c3 w3 hown4 hbel4)
    | (refine step_append_bytes _ rfl (.tmp 11) (.tmp 15) 26 rfl w.heap.size 5 Try.underlying26 byteType _ o rfl (by exact hown2.out) (wr.heap.size + 1) _ _ _ [n.toUInt8 ||| 128] rfl rfl (by exact hrb.out) (by simp; omega) (by simp; omega) (o ++ [n.toUInt8 ||| 128]) rfl (o ++ [n.toUInt8 ||| 128]).length rfl ?_; intro A3 c3 w3 hown4 hbel4))
      go_roundw
      case rel =>
        have h4 := hown4
        rw [List.length_append] at h4
        exact ⟨n / 128, _, by go_num, h4, Below.trans hg2.out hbel4, by simp; omega, ho2⟩
      case measure => exact hmeas.out
    · have hn : ¬ (128 : Int) ≤ n64 n := by unfold n64; omega
      have ho2 : Hid (o ++ [n.toUInt8] = l ++ num n0.toNat) := by
        have h1 := ho.out
        rw [num_small (by omega)] at h1
        rw [last7 n (by omega)]
        exact Lib.hid h1
      have hown2 := Lib.hid (hown.alloc (.cells #[.int .u8 (n8 (n.toUInt8))] 5))
      have hg2 := Lib.hid (Below.alloc hg hgs (.cells #[.int .u8 (n8 (n.toUInt8))] 5))
      have hrb := Lib.hid (RB.new1 wr 5 n.toUInt8)
      clear hown hg ho
      go_wp2_with (first
    | (refine wpList_append_bytes _ rfl (.tmp 19) (.tmp 22) 26 rfl w.heap.size 5 Try.underlying26 byteType _ o rfl (by exact hown2.out) (wr.heap.size + 1) _ _ _ [n.toUInt8] rfl rfl (by exact hrb.out) (by simp; omega) (by simp; omega) (o ++ [n.toUInt8]) rfl (o ++ [n.toUInt8]).length rfl ?_; intro A3 c3 w3 hown4 hbel4)
    | (refine step_append_bytes _ rfl (.tmp 19) (.tmp 22) 26 rfl w.heap.size 5 Try.underlying26 byteType _ o rfl (by exact hown2.out) (wr.heap.size + 1) _ _ _ [n.toUInt8] rfl rfl (by exact hrb.out) (by simp; omega) (by simp; omega) (o ++ [n.toUInt8]) rfl (o ++ [n.toUInt8]).length rfl ?_; intro A3 c3 w3 hown4 hbel4))
      go_ret
      rw [← ho2.out]
      exact ⟨A3, c3, by rw [List.length_append]; rfl, hown4, Below.trans hg2.out hbel4⟩
/-! ### sums -/
theorem shr_be (z : UInt64) (i : Nat) (h : i < 8) : UInt8.ofInt (n64 z / 2 ^ (56 - 8 * i)) = UInt8.ofNat (z.toNat / 256 ^ (7 - i)) := by
  have e2 : (2 : Nat) ^ (56 - 8 * i) = 256 ^ (7 - i) := by rw [show 56 - 8 * i = 8 * (7 - i) by omega, Nat.pow_mul]
  have e : n64 z / 2 ^ (56 - 8 * i) = ((z.toNat / 2 ^ (56 - 8 * i) : Nat) : Int) := by unfold n64; simp
  rw [e, e2, w_ofNat_u8]
def bep (z : UInt64) (k : Nat) : List UInt8 := (List.range k).map fun i => UInt8.ofNat (z.toNat / 256 ^ (7 - i))
theorem bep_succ (z : UInt64) (k : Nat) : bep z (k + 1) = bep z k ++ [UInt8.ofNat (z.toNat / 256 ^ (7 - k))] := by simp [bep, List.range_succ]
theorem bep_length (z : UInt64) (k : Nat) : (bep z k).length = k := by simp [bep]
theorem fl_length (ws : List UInt64) (k : Nat) : ((ws.take k).flatMap be8).length ≤ 8 * k := by
  have : ∀ l : List UInt64, (l.flatMap be8).length = 8 * l.length := by
    intro l
    induction l with
    | nil => rfl
    | cons x l ih => rw [List.flatMap_cons, List.length_append, ih, be8_length, List.length_cons]; omega
  rw [this, List.length_take]
  omega
theorem fl_succ {ws : List UInt64} {k : Nat} (h : k < ws.length) : (ws.take (k + 1)).flatMap be8 = (ws.take k).flatMap be8 ++ bep ws[k] 8 := by
  rw [List.take_succ_eq_append_getElem h, List.flatMap_append]
  simp [bep, be8]
set_option maxRecDepth 100000 in
set_option maxHeartbeats 2000000 in
theorem vsum_any (A : Option Addr) (c : Nat) (l : List UInt8) (x y : UInt64) (w : World) (hs : l.length ≤ 100000000000000) (hr : RB w w.heap.size A l) :
    Calls Try.prog 58 #[.slice A l.length c, .agg #[.int .u64 (n64 x), .int .u64 (n64 y)]] w (Out 5 w (l ++ sum x y)) := by
  obtain ⟨ws, hws⟩ : ∃ ws, ws = [x, y] := ⟨_, rfl⟩
  have hwl : ws.length = 2 := by rw [hws]; rfl
  obtain ⟨j0, hj0, _, hj1, _⟩ := info_parts (show (Try.prog.info? 29).map (fun i => (i.zero, i.size, i.bytes)) = some (some (.int .u64 0), 1, 8) by kernel_rfl)
  have hidx : ∀ (k : Nat) (h : k < ws.length) (w' : World), (Instr.index 116 (.agg #[.int .u64 (n64 x), .int .u64 (n64 y)]) (.int .i64 (k : Int))).run Try.prog w' = .ok (.int .u64 (n64 ws[k])) w' := fun k h w' => by
    refine run_index_arr w' Try.underlying116 Try.underlying29 hj0 hj1 _ k (by omega) _ ?_
    subst hws
    match k, h with
    | 0, _ => rfl
    | 1, _ => rfl
  have hfin : Hid (l ++ sum x y = l ++ (ws.take 2).flatMap be8) := by rw [hws]; exact Lib.hid (by simp [sum])
  have hsum := hfin
  replace hws := Lib.hid hws
  replace hidx := Lib.hid hidx
  have hb0 := Blk.new w 31 #[.int .u64 (n64 x), .int .u64 (n64 y)]
  have hb1 := hb0.alloc (.cells #[] 5)
  have hown0 := OB.made (E := 5) (base := w.heap.size + 1) (w.alloc (.cells #[.int .u64 (n64 x), .int .u64 (n64 y)] 31)) (by simp)
  rw [World.size_alloc] at hown0
  have hr0 := Lib.hid ((hr.alloc (Nat.le_refl _) (.cells #[.int .u64 (n64 x), .int .u64 (n64 y)] 31)).alloc (by simp) (.cells #[] 5))
  have hg0 := Lib.hid (((Gr.refl w).alloc (.cells #[.int .u64 (n64 x), .int .u64 (n64 y)] 31)).alloc (.cells #[] 5))
  replace hown0 := Lib.hid hown0
  have hbx := Lib.hid hb1
  clear hr hb0 hb1
  go_enter Try.func58, Try.ntmps58
  go_wp2_with (first
    | (refine wpList_append_bytes _ rfl (.tmp 9) (.tmp 10) 26 rfl (w.heap.size + 1) 5 Try.underlying26 byteType _ [] rfl (by exact hown0.out) w.heap.size _ _ _ l rfl rfl (by exact hr0.out) (by simp; omega) (by simp) l rfl l.length rfl ?_; intro A1 c1 w1 hown1 hbel1; have hb1 := hbx.out.below hbel1 (by omega); have q0 := hb1.cell 0; have q1 := hb1.cell 1; replace hb1 := Lib.hid hb1)
    | (refine step_append_bytes _ rfl (.tmp 9) (.tmp 10) 26 rfl (w.heap.size + 1) 5 Try.underlying26 byteType _ [] rfl (by exact hown0.out) w.heap.size _ _ _ l rfl rfl (by exact hr0.out) (by simp; omega) (by simp) l rfl l.length rfl ?_; intro A1 c1 w1 hown1 hbel1; have hb1 := hbx.out.below hbel1 (by omega); have q0 := hb1.cell 0; have q1 := hb1.cell 1; replace hb1 := Lib.hid hb1))
  have hg1 : Below w.heap.size w w1 := Below.trans hg0.out (Below.mono hbel1 (Nat.le_succ _))
  have hs1 : w.heap.size + 1 ≤ w1.heap.size := by have := hbel1.size; simp at this; omega
  go_loopw [5, 17] (fun b i wr => ∃ (k : Nat) (o : List UInt8), k ≤ 2 ∧ i = .int .i64 k ∧ OB 5 wr (w.heap.size + 1) b o ∧ Below w.heap.size w wr ∧ w.heap.size + 1 ≤ wr.heap.size ∧ Hid (o = l ++ (ws.take k).flatMap be8)) (fun _ i _ => 2 - (intOf i).toNat)
  case atStart => exact ⟨0, l, by omega, rfl, hown1, hg1, hs1, Lib.hid (by simp)⟩
  case round =>
    obtain ⟨k, o, hk, rfl, hown, hg, hsz, ho⟩ := hrel
    clear hown1 hg1 hs1 hb1 q0 q1 hbel1
    have hol : o.length ≤ l.length + 8 * k := by rw [ho.out, List.length_append]; have := fl_length ws k; omega
    obtain ⟨A0, c0, rfl, hcl, hcm⟩ := hown.shape
    replace hown := Lib.hid hown
    replace hg := Lib.hid hg
    by_cases h : k < 2
    · have hk2 : k < ws.length := by omega
      have hid : ∀ w', (Instr.index 116 (.agg #[.int .u64 (n64 x), .int .u64 (n64 y)]) (.int .i64 (k : Int))).run Try.prog w' = .ok (.int .u64 (n64 ws[k])) w' := hidx.out k hk2
      have hsn := Lib.hid (fl_succ hk2)
      generalize ws[k] = z at *
      have hki : (k : Int) < 2 := by omega
      go_wp2
      rename_i wo _
      replace h := Lib.hid h
      replace hk2 := Lib.hid hk2
      replace hwl := Lib.hid hwl
      go_loopw [5, 20] (fun b j wr => ∃ (i : Nat) (o2 : List UInt8), i ≤ 8 ∧ j = .int .i64 i ∧ OB 5 wr (w.heap.size + 1) b o2 ∧ Below w.heap.size w wr ∧ w.heap.size + 1 ≤ wr.heap.size ∧ Hid (o2 = o ++ bep z i)) (fun _ j _ => 8 - (intOf j).toNat)
      case atStart => exact ⟨0, o, by omega, rfl, hown.out, hg.out, hsz, Lib.hid (by simp [bep])⟩
      case round =>
        obtain ⟨i, o2, hi, rfl, hown2, hg2, hsz2, ho2⟩ := hrel
        clear hown hg hid
        have hol2 : o2.length ≤ l.length + 24 := by rw [ho2.out, List.length_append, bep_length]; omega
        obtain ⟨A2, c2, rfl, hcl2, hcm2⟩ := hown2.shape
        by_cases h8 : i < 8
        · have ho3 : Hid (o2 ++ [UInt8.ofInt (n64 z / 2 ^ (56 - 8 * i))] = o ++ bep z (i + 1)) := by rw [ho2.out, bep_succ, List.append_assoc, shr_be z i h8]; exact Lib.hid rfl
          have hown3 := Lib.hid (hown2.alloc (.cells #[.int .u8 (n8 (UInt8.ofInt (n64 z / 2 ^ (56 - 8 * i))))] 5))
          have hg3 := Lib.hid (Below.alloc hg2 (by omega) (.cells #[.int .u8 (n8 (UInt8.ofInt (n64 z / 2 ^ (56 - 8 * i))))] 5))
          have hrb := Lib.hid (RB.new1 wr 5 (UInt8.ofInt (n64 z / 2 ^ (56 - 8 * i))))
          clear ho2 hown2 hg2
          go_wp2_with (first
    | (refine wpList_append_bytes _ rfl (.tmp 23) (.tmp 30) 26 rfl (w.heap.size + 1) 5 Try.underlying26 byteType _ o2 rfl (by exact hown3.out) (wr.heap.size + 1) _ _ _ [UInt8.ofInt (n64 z / 2 ^ (56 - 8 * i))] rfl rfl (by exact hrb.out) (by simp; omega) (by simp; omega) (o2 ++ [UInt8.ofInt (n64 z / 2 ^ (56 - 8 * i))]) rfl (o2 ++ [UInt8.ofInt (n64 z / 2 ^ (56 - 8 * i))]).length rfl ?_; intro A3 c3 w3 hown4 hbel4)
    | (refine step_append_bytes _ rfl (.tmp 23) (.tmp 30) 26 rfl (w.heap.size + 1) 5 Try.underlying26 byteType _ o2 rfl (by exact hown3.out) (wr.heap.size + 1) _ _ _ [UInt8.ofInt (n64 z / 2 ^ (56 - 8 * i))] rfl rfl (by exact hrb.out) (by simp; omega) (by simp; omega) (o2 ++ [UInt8.ofInt (n64 z / 2 ^ (56 - 8 * i))]) rfl (o2 ++ [UInt8.ofInt (n64 z / 2 ^ (56 - 8 * i))]).length rfl ?_; intro A3 c3 w3 hown4 hbel4))
          have hs3 := hbel4.size
          rw [World.size_alloc] at hs3
          go_roundw
          case rel =>
            have h4 := hown4
            rw [List.length_append] at h4
            exact ⟨i + 1, _, by omega, by go_num, h4, Below.trans hg3.out (Below.mono hbel4 (Nat.le_succ _)), by omega, ho3⟩
          case measure => simp [intOf]; omega
        · obtain rfl : i = 8 := by omega
          replace hown2 := Lib.hid hown2
          replace hg2 := Lib.hid hg2
          go_wp2
          go_roundw
          case rel => exact ⟨k + 1, o2, by have := h.out; omega, by go_num, hown2.out, hg2.out, hsz2, by rw [ho2.out, hsn.out, ho.out, List.append_assoc]; exact Lib.hid rfl⟩
          case measure => have := h.out; simp [intOf]; omega
    · obtain rfl : k = 2 := by omega
      have hof : Hid (o = l ++ sum x y) := by rw [hfin.out]; exact ho
      clear ho hidx
      go_wp2
      go_ret
      rw [← hof.out]
      exact ⟨A0, c0, rfl, hown.out.base_le (Nat.le_succ _), hg.out⟩
end Vint
end Go.Proofs.Ytcibngbgcnnjnaa

