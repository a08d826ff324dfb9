/- The walks of the sum of words, and of the reference's bytes of words. No condition but sizes. -/
import Derived.Test.YtppoeneldilnjaaMixRefOf
set_option linter.unusedVariables false
set_option linter.unusedSimpArgs false
namespace Go.Proofs.Ytppoeneldilnjaa
open Go Go.RowKit W
namespace Mix
/-! ### a slice of words -/
def RW (w : World) (B : Nat) (A : Option Addr) (l : List UInt64) : Prop := Reads w B 1 A l.length (l.map fun x => .int .u64 (n64 x))
theorem RW.at_ {w : World} {B : Nat} {A : Option Addr} {l : List UInt64} {k : Nat} (h : RW w B A l) (hk : k < l.length) : ∃ ad, A = some ad ∧ ad.block < B ∧ w.cell? (ad.add k) = some (.int .u64 (n64 l[k])) := by
  obtain ⟨ad, u, e, hb, hx, hc⟩ := Reads.at_ h hk
  refine ⟨ad, e, hb, ?_⟩
  rw [hc, ← hx, List.getElem?_map, List.getElem?_eq_getElem hk]
  rfl
theorem RW.below {w w' : World} {B : Nat} {A : Option Addr} {l : List UInt64} (h : RW w B A l) (hb : Below B w w') : RW w' B A l := Reads.below h hb
/-! ### bytes of words -/
def upto (x : UInt64) (j : Nat) : List UInt8 := (List.range j).map (byteAt x)
theorem upto_length (x : UInt64) (j : Nat) : (upto x j).length = j := by simp [upto]
theorem upto_succ (x : UInt64) (j : Nat) : upto x (j + 1) = upto x j ++ [byteAt x j] := by simp [upto, List.range_succ]
def wordsB (l : List UInt64) : List UInt8 := l.flatMap bytes8
theorem wordsB_length (l : List UInt64) : (wordsB l).length = 8 * l.length := by
  induction l with
  | nil => rfl
  | cons x l ih =>
    have : wordsB (x :: l) = bytes8 x ++ wordsB l := rfl
    rw [this, List.length_append, ih]
    simp [bytes8]
    omega
theorem wordsB_succ {l : List UInt64} {k : Nat} (h : k < l.length) : wordsB (l.take (k + 1)) = wordsB (l.take k) ++ upto l[k] 8 := by
  unfold wordsB
  rw [List.take_succ_eq_append_getElem h, List.flatMap_append]
  simp [upto, bytes8]
theorem shr_byte (x : UInt64) (k : Nat) : UInt8.ofInt (n64 x / 2 ^ (8 * k)) = byteAt x k := by
  have e2 : (2 : Nat) ^ (8 * k) = 256 ^ k := by rw [Nat.pow_mul]
  have e : n64 x / 2 ^ (8 * k) = ((x.toNat / 2 ^ (8 * k) : Nat) : Int) := by unfold n64; simp
  rw [e, e2, w_ofNat_u8]
  rfl
theorem RB.new1 (w : World) (t : TypeId) (x : UInt8) : RB (w.alloc (.cells #[.int .u8 (n8 x)] t)) (w.heap.size + 1) (some ⟨w.heap.size, 0, none⟩) [x] := RB.of_new w t [x] (0, 0)
set_option maxHeartbeats 1000000 in
theorem refBytes_any (A : Option Addr) (c : Nat) (l : List UInt64) (w : World) (hs : l.length ≤ 1000000) (hr : RW w w.heap.size A l) :
    Calls Try.prog 15 #[.slice A l.length c] w fun e w' => e = .returned (str (wordsB l)) ∧ Gr w w' := by
  have hr' := Lib.hid hr
  clear hr
  go_enter Try.func15, Try.ntmps15
  go_wp2
  go_loopw [3, 4] (fun o i wr => ∃ (k : Nat) (out : List UInt8), k ≤ l.length ∧ i = .int .i64 k ∧ o = .string ⟨out.toArray⟩ ∧ Gr w wr ∧ Hid (out = wordsB (l.take k))) (fun _ i _ => l.length - (intOf i).toNat)
  case atStart => exact ⟨0, [], Nat.zero_le _, rfl, rfl, Gr.refl w, Lib.hid rfl⟩
  case round =>
    obtain ⟨k, out, hk, rfl, rfl, hg, ho⟩ := hrel
    replace hg := Lib.hid hg
    by_cases h : k < l.length
    · obtain ⟨ad, hA, hlt, hc⟩ := (hr'.out.below hg.out).at_ h
      subst hA
      have hsn := Lib.hid (wordsB_succ h)
      have hol : Hid (out.length = 8 * k) := by
        have := wordsB_length (l.take k)
        rw [← ho.out, List.length_take] at this
        exact Lib.hid (by omega)
      generalize l[k] = x at *
      go_wp2
      rename_i wo _
      go_loopw [3, 5, 6] (fun o y j wr => ∃ (m : Nat) (out2 : List UInt8), m ≤ 8 ∧ j = .int .i64 m ∧ y = .int .u64 (n64 (down x m)) ∧ o = .string ⟨out2.toArray⟩ ∧ Gr w wr ∧ Hid (out2 = out ++ upto x m)) (fun _ _ j _ => 8 - (intOf j).toNat)
      case atStart => exact ⟨0, out, by omega, rfl, rfl, rfl, hg.out, Lib.hid (by simp [upto])⟩
      case round =>
        obtain ⟨m, out2, hm, rfl, rfl, rfl, hg2, ho2⟩ := hrel
        replace hg2 := Lib.hid hg2
        by_cases hm8 : m < 8
        · have hd := Lib.hid (show down x m / 256 = down x (m + 1) from rfl)
          have hb := Lib.hid (down_byte x m)
          have ho3 : Hid (out2 ++ [byteAt x m] = out ++ upto x (m + 1)) := by rw [ho2.out, upto_succ, List.append_assoc]; exact Lib.hid rfl
          have hl2 : out2.length ≤ 8000008 := by rw [ho2.out, List.length_append, upto_length, hol.out]; omega
          clear ho2
          generalize down x m = y at *
          have hg3 := Lib.hid (hg2.out.alloc (.cells #[.int .u8 (n8 (y % 256).toUInt8)] 5))
          have hcv := run_bytes_string (P := Try.prog) (wr.alloc (.cells #[.int .u8 (n8 (y % 256).toUInt8)] 5)) 22 9 5 Try.underlying22 byteType.1 Try.underlying9 _ _ 1 1 [(y % 256).toUInt8] rfl (RB.new1 wr 5 (y % 256).toUInt8)
          go_wp2
          go_roundw
          case rel => exact ⟨m + 1, out2 ++ [byteAt x m], by omega, by go_num, by rw [hd.out], by rw [hb.out], hg3.out, ho3⟩
          case measure => simp [intOf]; omega
        · obtain rfl : m = 8 := by omega
          go_wp2
          go_roundw
          case rel => exact ⟨k + 1, out2, by omega, by go_num, rfl, hg2.out, by rw [ho2.out, hsn.out, ← ho.out]; exact Lib.hid rfl⟩
          case measure => simp [intOf]; omega
    · obtain rfl : k = l.length := by omega
      have hf : Hid (out = wordsB l) := by have := ho.out; rw [List.take_length] at this; exact Lib.hid this
      clear ho
      go_wp2
      go_ret
      exact ⟨by rw [hf.out]; rfl, hg.out⟩
set_option maxHeartbeats 1000000 in
theorem words_any (A : Option Addr) (c : Nat) (l : List UInt64) (w : World) (hs : l.length ≤ 1000000) (hr : RW w w.heap.size A l) :
    Calls Try.prog 14 #[.slice A l.length c] w fun e w' => e = .returned (sumV (of (wordsB l))) ∧ Gr w w' := by
  have hr' := Lib.hid hr
  clear hr
  have hb0 := Blk.new w 26 #[.int .u64 0, .int .u64 0]
  have hg0 := (Gr.refl w).alloc (.cells #[.int .u64 0, .int .u64 0] 26)
  replace hb0 := Lib.hid hb0
  replace hg0 := Lib.hid hg0
  go_enter Try.func14, Try.ntmps14
  go_wp2
  go_loopw [3, 9] (fun b i wr => ∃ (k : Nat) (out : List UInt8), k ≤ l.length ∧ i = .int .i64 k ∧ OB 5 wr (w.heap.size + 1) b out ∧ Below (w.heap.size + 1) (w.alloc (.cells #[.int .u64 0, .int .u64 0] 26)) wr ∧ Hid (out = wordsB (l.take k))) (fun _ i _ => l.length - (intOf i).toNat)
  case atStart => exact ⟨0, [], Nat.zero_le _, rfl, OB.nil_, Below.refl _ _, Lib.hid rfl⟩
  case round =>
    obtain ⟨k, out, hk, rfl, hown, hg, ho⟩ := hrel
    replace hg := Lib.hid hg
    by_cases h : k < l.length
    · obtain ⟨ad, hA, hlt, hc⟩ := (hr'.out.below ((Below.mono hg.out (by simp)) |> fun h => Below.trans hg0.out h)).at_ h
      subst hA
      have hsn := Lib.hid (wordsB_succ h)
      have hol : Hid (out.length = 8 * k) := by
        have := wordsB_length (l.take k)
        rw [← ho.out, List.length_take] at this
        exact Lib.hid (by omega)
      generalize l[k] = x at *
      obtain ⟨A0, c0, rfl, hcl, hcm⟩ := hown.shape
      replace hown := Lib.hid hown
      go_wp2
      rename_i wo _
      have hszo := hg.out.size
      rw [World.size_alloc] at hszo
      go_loopw [3, 13] (fun b j wr => ∃ (m : Nat) (out2 : List UInt8), m ≤ 8 ∧ j = .int .i64 m ∧ OB 5 wr (w.heap.size + 1) b out2 ∧ Below (w.heap.size + 1) (w.alloc (.cells #[.int .u64 0, .int .u64 0] 26)) wr ∧ Hid (out2 = out ++ upto x m)) (fun _ j _ => 8 - (intOf j).toNat)
      case atStart => exact ⟨0, out, by omega, rfl, hown.out, hg.out, Lib.hid (by simp [upto])⟩
      case round =>
        obtain ⟨m, out2, hm, rfl, hown2, hg2, ho2⟩ := hrel
        have hsz2 := hg2.size
        rw [World.size_alloc] at hsz2
        have hl2 : out2.length ≤ 8000008 := by rw [ho2.out, List.length_append, upto_length, hol.out]; omega
        obtain ⟨A2, c2, rfl, hcl2, hcm2⟩ := hown2.shape
        clear hown hg
        by_cases hm8 : m < 8
        · have ho3 : Hid (out2 ++ [UInt8.ofInt (n64 x / 2 ^ (8 * m))] = out ++ upto x (m + 1)) := by rw [ho2.out, upto_succ, List.append_assoc, shr_byte]; exact Lib.hid rfl
          have hown3 := Lib.hid (hown2.alloc (.cells #[.int .u8 (n8 (UInt8.ofInt (n64 x / 2 ^ (8 * m))))] 5))
          have hg3 := Lib.hid (Below.alloc hg2 hsz2 (.cells #[.int .u8 (n8 (UInt8.ofInt (n64 x / 2 ^ (8 * m))))] 5))
          have hrb := Lib.hid (RB.new1 wr 5 (UInt8.ofInt (n64 x / 2 ^ (8 * m))))
          clear ho2 hown2 hg2
          go_wp2_with (first
            | (refine wpList_append_bytes _ rfl (.tmp 16) (.tmp 22) 22 rfl (w.heap.size + 1) 5 Try.underlying22 byteType _ out2 rfl (by exact hown3.out) (wr.heap.size + 1) _ _ _ [UInt8.ofInt (n64 x / 2 ^ (8 * m))] rfl rfl (by exact hrb.out) (by simp; omega) (by simp; omega) (out2 ++ [UInt8.ofInt (n64 x / 2 ^ (8 * m))]) rfl (out2 ++ [UInt8.ofInt (n64 x / 2 ^ (8 * m))]).length rfl ?_; intro A3 c3 w3 hown4 hbel4)
            | (refine step_append_bytes _ rfl (.tmp 16) (.tmp 22) 22 rfl (w.heap.size + 1) 5 Try.underlying22 byteType _ out2 rfl (by exact hown3.out) (wr.heap.size + 1) _ _ _ [UInt8.ofInt (n64 x / 2 ^ (8 * m))] rfl rfl (by exact hrb.out) (by simp; omega) (by simp; omega) (out2 ++ [UInt8.ofInt (n64 x / 2 ^ (8 * m))]) rfl (out2 ++ [UInt8.ofInt (n64 x / 2 ^ (8 * m))]).length rfl ?_; intro A3 c3 w3 hown4 hbel4))
          go_roundw
          case rel =>
            have h4 := hown4
            rw [List.length_append] at h4
            exact ⟨m + 1, _, by omega, by go_num, h4, Below.trans hg3.out hbel4, ho3⟩
          case measure => simp [intOf]; omega
        · obtain rfl : m = 8 := by omega
          replace hown2 := Lib.hid hown2
          replace hg2 := Lib.hid hg2
          go_wp2
          go_roundw
          case rel => exact ⟨k + 1, out2, by omega, by go_num, hown2.out, hg2.out, by rw [ho2.out, hsn.out, ← ho.out]; exact Lib.hid rfl⟩
          case measure => simp [intOf]; omega
    · obtain rfl : k = l.length := by omega
      have hf : Hid (out = wordsB l) := by have := ho.out; rw [List.take_length] at this; exact Lib.hid this
      have hol : out.length ≤ 8000000 := by rw [hf.out, wordsB_length]; omega
      clear ho
      obtain ⟨A0, c0, rfl, hcl, hcm⟩ := hown.shape
      have hof := Lib.hid (of_any A0 c0 out wr (by omega) hcl hown.rb)
      have hb1 := hb0.out.below hg.out (by omega)
      clear hown
      go_wp2_with fail
      refine hof.out.mono ?_
      rintro e w3 ⟨rfl, hgr⟩
      obtain ⟨s1, hs1⟩ : ∃ t, t = of out := ⟨_, rfl⟩
      rw [← hs1]
      replace hs1 := Lib.hid hs1
      obtain ⟨q0, q1, q2, q3, hb3⟩ := (hb1.below hgr hb1.lt).pair (.int .u64 (n64 s1.1)) (.int .u64 (n64 s1.2))
      have z0 := hb3.cell 0
      have z1 := hb3.cell 1
      have hge := Lib.hid (Below.setCell (Below.setCell (Gr.trans (Below.trans hg0.out (Below.mono hg.out (Nat.le_succ _))) hgr) (p := ⟨w.heap.size, 0, none⟩) (Nat.le_refl _) (.int .u64 (n64 s1.1))) (p := ⟨w.heap.size, 1, none⟩) (Nat.le_refl _) (.int .u64 (n64 s1.2)))
      clear hgr hb1 hb3 hg hof
      go_wp2
      refine bodyPost_ret (v := sumV s1) (by simp [results, Try.results14, go_sem, z0, z1]) rfl ⟨by rw [hs1.out, hf.out], hge.out⟩
end Mix
end Go.Proofs.Ytppoeneldilnjaa
