/- The walk of the reference's sum as bytes. No condition. -/
import Derived.Test.YtblafmoidgmnfaaVintRef
import Derived.Laws.MakeOwn
set_option linter.unusedVariables false
set_option linter.unusedSimpArgs false
namespace Go.Proofs.Ytblafmoidgmnfaa
open Go Go.RowKit W
namespace Vint
def byteB (x : UInt64) (i : Nat) : UInt8 := UInt8.ofNat (x.toNat / 256 ^ (7 - i))
/-- The eight bytes of a word, from place j on; zeros ahead. -/
def upB (x : UInt64) (j : Nat) : List UInt8 := (List.range 8).map fun i => if j ≤ i then byteB x i else 0
theorem upB_length (x : UInt64) (j : Nat) : (upB x j).length = 8 := by simp [upB]
theorem upB_all (x : UInt64) : upB x 0 = be8 x := by simp [upB, be8, byteB]
theorem upB_none (x : UInt64) : upB x 8 = [0, 0, 0, 0, 0, 0, 0, 0] := by rfl
theorem upB_set (x : UInt64) (m : Nat) (h : m < 8) : (upB x (m + 1)).set m (byteB x m) = upB x m := by
  apply List.ext_getElem
  · simp [upB]
  · intro i h1 h2
    rw [List.length_set, upB_length] at h1
    rw [List.getElem_set]
    by_cases e : m = i
    · subst e
      rw [if_pos rfl]
      simp [upB]
    · rw [if_neg e]
      simp only [upB, List.getElem_map, List.getElem_range]
      by_cases hle : m ≤ i
      · rw [if_pos (by omega), if_pos hle]
      · rw [if_neg (by omega), if_neg hle]
theorem two_set (x y : UInt64) (m : Nat) (h : m < 8) : ((upB x (m + 1) ++ upB y (m + 1)).set m (byteB x m)).set (8 + m) (byteB y m) = upB x m ++ upB y m := by
  have e1 : (upB x (m + 1) ++ upB y (m + 1)).set m (byteB x m) = upB x m ++ upB y (m + 1) := by
    rw [List.set_append, if_pos (by rw [upB_length]; exact h), upB_set x m h]
  rw [e1, List.set_append, if_neg (by rw [upB_length]; omega), upB_length, Nat.add_sub_cancel_left, upB_set y m h]
theorem down_b (X : Nat) : (UInt64.ofNat X % 256).toUInt8 = UInt8.ofNat (X % 18446744073709551616) := by
  apply UInt8.toNat_inj.1
  simp [UInt64.toNat_mod]
def dn (x : UInt64) (j : Nat) : UInt64 := UInt64.ofNat (x.toNat / 256 ^ (8 - j))
theorem dn_byte (x : UInt64) (m : Nat) (h : m < 8) : (dn x (m + 1) % 256).toUInt8 = byteB x m := by
  unfold dn byteB
  have e : 8 - (m + 1) = 7 - m := by omega
  have hl : x.toNat / 256 ^ (7 - m) < 18446744073709551616 := Nat.lt_of_le_of_lt (Nat.div_le_self _ _) x.toNat_lt
  rw [down_b, e, Nat.mod_eq_of_lt hl]
theorem dn_step (x : UInt64) (m : Nat) (h : m < 8) : dn x (m + 1) / 256 = dn x m := by
  apply UInt64.toNat_inj.1
  unfold dn
  have h1 : x.toNat / 256 ^ (8 - (m + 1)) < 18446744073709551616 := Nat.lt_of_le_of_lt (Nat.div_le_self _ _) x.toNat_lt
  have h2 : x.toNat / 256 ^ (8 - m) < 18446744073709551616 := Nat.lt_of_le_of_lt (Nat.div_le_self _ _) x.toNat_lt
  rw [UInt64.toNat_div, UInt64.toNat_ofNat', UInt64.toNat_ofNat', Nat.mod_eq_of_lt (show _ < 2 ^ 64 from h1), Nat.mod_eq_of_lt (show _ < 2 ^ 64 from h2)]
  have e : 8 - m = (8 - (m + 1)) + 1 := by omega
  rw [e, Nat.pow_succ, ← Nat.div_div_eq_div_mul]
  rfl
theorem dn_top (x : UInt64) : dn x 8 = x := by
  unfold dn
  simp
set_option maxHeartbeats 2000000 in
theorem refSum_any (x y : UInt64) (w : World) : Calls Try.prog 28 #[.agg #[.int .u64 (n64 x), .int .u64 (n64 y)]] w fun e w' => e = .returned (str (sum x y)) ∧ Gr w w' := by
  obtain ⟨Z, hZ⟩ : ∃ Z, Z = upB x 8 ++ upB y 8 := ⟨_, rfl⟩
  have hZl : Z.length = 16 := by rw [hZ, List.length_append, upB_length, upB_length]
  have hmc : madeCells (Value.int .u8 0).cells 16 = (bvs Z).toArray := by rw [hZ, upB_none, upB_none]; kernel_rfl
  have hb0 := (Blk.new w 50 #[.int .u64 (n64 x), .int .u64 (n64 y)]).alloc (.cells (bvs Z).toArray 5)
  have hown0 := OB.lit (E := 5) (base := w.heap.size) (w.alloc (.cells #[.int .u64 (n64 x), .int .u64 (n64 y)] 50)) Z (by simp) (by rw [hZl]; unfold maxLen; omega)
  rw [World.size_alloc, hZl] at hown0
  have hg0 := ((Gr.refl w).alloc (.cells #[.int .u64 (n64 x), .int .u64 (n64 y)] 50)).alloc (.cells (bvs Z).toArray 5)
  have q0 := hb0.cell 0
  have q1 := hb0.cell 1
  replace hown0 := Lib.hid hown0
  replace hg0 := Lib.hid hg0
  replace hZ := Lib.hid hZ
  replace hZl := Lib.hid hZl
  obtain ⟨i0, hi0, hz0, hz1, hz2⟩ := info_parts byteType.2
  have hmk := run_makeSlice (P := Try.prog) (w.alloc (.cells #[.int .u64 (n64 x), .int .u64 (n64 y)] 50)) 22 5 i0 (.int .u8 0) Try.underlying22 hi0 hz0 .i64 .i64 16 16 (by omega) (by omega) (by rw [hz1]; decide) (by rw [hz2]; decide) (by omega)
  rw [hz1, World.size_alloc, show (16 : Int).toNat * 1 = 16 from rfl, hmc, show (16 : Int).toNat = 16 from rfl] at hmk
  clear hmc hb0 hz0 hz1 hz2 hi0
  go_enter Try.func28, Try.ntmps28
  go_wp2
  go_region
  go_wp2
  clear hmk q0 q1
  go_loopw [4, 5, 6] (fun a b i wr => ∃ (j : Nat) (L : List UInt8), j ≤ 8 ∧ i = .int .i64 ((j : Int) - 1) ∧ a = .int .u64 (n64 (dn x j)) ∧ b = .int .u64 (n64 (dn y j)) ∧ L.length = 16 ∧ OB 5 wr w.heap.size (.slice (some ⟨w.heap.size + 1, 0, none⟩) 16 16) L ∧ Gr w wr ∧ Hid (L = upB x j ++ upB y j)) (fun _ _ i _ => (intOf i + 1).toNat)
  case atStart => exact ⟨8, Z, by omega, rfl, by rw [dn_top], by rw [dn_top], hZl.out, hown0.out.drew, Gr.drew hg0.out, hZ⟩
  case round =>
    obtain ⟨j, L, hj, rfl, rfl, rfl, hL16, hown, hg, hL⟩ := hrel
    clear hown0 hg0
    by_cases h0 : j = 0
    · subst h0
      have hcv := run_bytes_string (P := Try.prog) wr 22 9 5 Try.underlying22 byteType.1 Try.underlying9 wr.heap.size (some ⟨w.heap.size + 1, 0, none⟩) 16 16 L hL16.symm (by have h := hown; rw [← hL16] at h; exact h.rb)
      have hf : Hid (L = sum x y) := by rw [hL.out, upB_all, upB_all]; exact Lib.hid rfl
      have hg' := Lib.hid hg
      clear hown hg hL hL16
      go_wp2
      go_ret
      rw [← hf.out]
      exact ⟨rfl, hg'.out⟩
    · obtain ⟨m, rfl⟩ : ∃ m, j = m + 1 := ⟨j - 1, by omega⟩
      have e : (((m + 1 : Nat) : Int) - 1) = (m : Int) := by omega
      rw [e]
      have hm : m < 8 := by omega
      have hp := Lib.hid (dn_byte x m hm)
      have hq := Lib.hid (dn_byte y m hm)
      have hp2 := Lib.hid (dn_step x m hm)
      have hq2 := Lib.hid (dn_step y m hm)
      have hset := Lib.hid (two_set x y m hm)
      generalize dn x (m + 1) = p at *
      generalize dn y (m + 1) = q at *
      obtain ⟨v0, c0⟩ : ∃ v, wr.cell? ⟨w.heap.size + 1, m, none⟩ = some v := ⟨_, OB.cell hown m (by omega)⟩
      have f0 := OB.frozen hown m
      have hown1 := OB.stored hown m (p % 256).toUInt8
      obtain ⟨v1, c1⟩ : ∃ v, (wr.setCell ⟨w.heap.size + 1, m, none⟩ (.int .u8 (n8 (p % 256).toUInt8))).cell? ⟨w.heap.size + 1, 8 + m, none⟩ = some v := ⟨_, OB.cell hown1 (8 + m) (by rw [List.length_set]; omega)⟩
      have f1 := OB.frozen hown1 (8 + m)
      have hown2 := Lib.hid (OB.stored hown1 (8 + m) (q % 256).toUInt8)
      have hg2 := Lib.hid (Below.setCell (Below.setCell hg (p := ⟨w.heap.size + 1, m, none⟩) (Nat.le_succ _) (.int .u8 (n8 (p % 256).toUInt8))) (p := ⟨w.heap.size + 1, 8 + m, none⟩) (Nat.le_succ _) (.int .u8 (n8 (q % 256).toUInt8)))
      have hL2 : Hid ((L.set m (p % 256).toUInt8).set (8 + m) (q % 256).toUInt8 = upB x m ++ upB y m) := by rw [hL.out, hp.out, hq.out, hset.out]; exact Lib.hid rfl
      have hLl : ((L.set m (p % 256).toUInt8).set (8 + m) (q % 256).toUInt8).length = 16 := by simp [hL16]
      replace hLl := Lib.hid hLl
      have hmi : (0 : Int) ≤ (m : Int) := by omega
      have hm16 : (m : Int) < 16 := by omega
      have hm16' : (8 : Int) + (m : Int) < 16 := by omega
      clear hown hown1 hg hL hL16 h0 e
      go_wp2
      go_roundw
      case rel => exact ⟨m, _, by omega, by first | rfl | go_num, by rw [hp2.out], by rw [hq2.out], hLl.out, hown2.out, hg2.out, hL2⟩
      case measure => first | (simp [intOf]; done) | (simp [intOf]; omega)
end Vint
end Go.Proofs.Ytblafmoidgmnfaa
