/- The walks of the sums of 32 bits, third part: turning. No condition but sizes. -/
import Derived.Test.YtpkbdodclkgjpaaCrcWalkB
set_option linter.unusedVariables false
set_option linter.unusedSimpArgs false
namespace Go.Proofs.Ytpkbdodclkgjpaa
open Go Go.RowKit W
namespace Crc

theorem turnTo_length (k : Nat) (b : List UInt8) (a : Int) (m : UInt32) : (turnTo k b a m).length = b.length := by simp [turnTo]
theorem turnTo_zero (b : List UInt8) (a : Int) (m : UInt32) : turnTo 0 b a m = b := by
  apply List.ext_getElem (by simp [turnTo])
  intro p h1 h2
  simp only [turnTo, List.getElem_mapIdx]
  rw [if_neg (by omega)]
theorem turnTo_get (k : Nat) (b : List UInt8) (a : Int) (m : UInt32) (p : Nat) (h : p < b.length) :
    (turnTo k b a m)[p]'(by rw [turnTo_length]; exact h) = if a ≤ p ∧ (p : Int) < a + k then b[p] ^^^ (bytes m).getD ((p : Int) - a).toNat 0 else b[p] := by
  simp only [turnTo, List.getElem_mapIdx]
/-- The round in which a byte is turned. -/
theorem turnTo_hit (k : Nat) (b : List UInt8) (a : Int) (m : UInt32) (q : Nat) (hq : (q : Int) = a + k) (hl : q < b.length) (hk : k < 4) :
    turnTo (k + 1) b a m = (turnTo k b a m).set q (b[q] ^^^ byt m k) ∧ (turnTo k b a m)[q]'(by rw [turnTo_length]; exact hl) = b[q] := by
  have hm : (bytes m).getD k 0 = byt m k := by
    match k, hk with
    | 0, _ => rfl
    | 1, _ => rfl
    | 2, _ => rfl
    | 3, _ => rfl
  constructor
  · apply List.ext_getElem (by simp [turnTo_length])
    intro p h1 h2
    have hp : p < b.length := by rw [turnTo_length] at h1; exact h1
    rw [turnTo_get _ _ _ _ _ hp, List.getElem_set, turnTo_get _ _ _ _ _ hp]
    by_cases e : q = p
    · subst e
      rw [if_pos ⟨by omega, by omega⟩, if_pos rfl, show ((q : Int) - a).toNat = k from by omega, hm]
    · rw [if_neg e]
      by_cases h : a ≤ p ∧ (p : Int) < a + k
      · rw [if_pos ⟨h.1, by omega⟩, if_pos h]
      · rw [if_neg (by omega), if_neg h]
  · rw [turnTo_get _ _ _ _ _ hl, if_neg (by omega)]
theorem turnTo_miss (k : Nat) (b : List UInt8) (a : Int) (m : UInt32) (h : ¬ (-(k : Int) ≤ a ∧ a < (b.length : Int) - k)) : turnTo (k + 1) b a m = turnTo k b a m := by
  apply List.ext_getElem (by simp [turnTo_length])
  intro p h1 h2
  have hp : p < b.length := by rw [turnTo_length] at h1; exact h1
  rw [turnTo_get _ _ _ _ _ hp, turnTo_get _ _ _ _ _ hp]
  by_cases h3 : a ≤ p ∧ (p : Int) < a + k
  · rw [if_pos ⟨h3.1, by omega⟩, if_pos h3]
  · rw [if_neg (by omega), if_neg h3]

set_option maxRecDepth 100000 in
set_option maxHeartbeats 400000 in
theorem turn_any (A : Option Addr) (c : Nat) (l : List UInt8) (a : Int) (m : UInt32) (w : World) (hs : l.length ≤ 1099511627776) (hc : l.length ≤ c) (hm : c ≤ maxLen) (ha1 : -9223372036854775808 ≤ a) (ha2 : a ≤ 9223372036854775807) (hr : RB w w.heap.size A l) :
    Calls Try.prog 25 #[.slice A l.length c, .int .i64 a, .int .u32 (n32 m)] w fun e w' => ∃ v, e = .returned v ∧ OB 5 w' w.heap.size v (turned l a m) ∧ Below w.heap.size w w' := by
  have hr1 := Lib.hid (hr.alloc (o := .cells #[] 5) (Nat.le_refl _))
  have hown0 := Lib.hid (OB.made (E := 5) (base := w.heap.size) w (Nat.le_refl _))
  have hb4 := Lib.hid (bytes_any m)
  unfold agg4 at hb4
  clear hr
  go_enter Try.func25, Try.ntmps25
  go_wp2_with (first
    | (refine wpList_append_bytes _ rfl (.tmp 10) (.tmp 11) 44 rfl w.heap.size 5 Try.underlying44 byteType _ [] rfl (by exact hown0.out) w.heap.size _ _ _ l rfl rfl (by exact hr1.out) (by simp; omega) (by simp) l rfl l.length rfl ?_; intro A1 c1 w1 hown1 hbw1)
    | (go_at_call 26; refine (hb4.out _).mono ?_; rintro e w2 ⟨rfl, hb2⟩))
  have hb3 : Below w.heap.size w w2 := (hbw1.trans (hb2.mono (by have := hbw1.size; simp at this; omega)) |> fun h => ((Below.refl _ _).alloc (Nat.le_refl _) _).trans h)
  have hown2 := hown1.keep (B := w1.heap.size) (fun g hg => (World.ownsRow.lt hown1 g hg).2) hb2
  have hA : ∀ ad, A1 = some ad → ad.block < w1.heap.size := fun ad e => by subst e; exact (World.ownsRow.lt hown1 ad.block rfl).2
  have hg1 : w1.heap.size ≤ w2.heap.size := hb2.size
  have hown3 := Lib.hid (hown2.alloc (.cells #[.int .u8 (n8 (byt m 0)), .int .u8 (n8 (byt m 1)), .int .u8 (n8 (byt m 2)), .int .u8 (n8 (byt m 3))] 67))
  have hBk := Lib.hid (Blk.new w2 67 #[.int .u8 (n8 (byt m 0)), .int .u8 (n8 (byt m 1)), .int .u8 (n8 (byt m 2)), .int .u8 (n8 (byt m 3))])
  have hb4' := Lib.hid (hb3.alloc hb3.size (.cells #[.int .u8 (n8 (byt m 0)), .int .u8 (n8 (byt m 1)), .int .u8 (n8 (byt m 2)), .int .u8 (n8 (byt m 3))] 67))
  have hsz := hb3.size
  clear hown1 hbw1 hb2 hown2 hb3 hown0 hr1 hb4
  have hA' : ∀ ad, A1 = some ad → ad.block < w2.heap.size := fun ad e => Nat.lt_of_lt_of_le (hA ad e) hg1
  clear hA hg1
  generalize w2.heap.size = g at *
  generalize w2.alloc (.cells #[.int .u8 (n8 (byt m 0)), .int .u8 (n8 (byt m 1)), .int .u8 (n8 (byt m 2)), .int .u8 (n8 (byt m 3))] 67) = w3 at *
  have hA2 := Lib.hid hA'
  clear hA'
  go_loopw [9, 15] (fun _ i wr => ∃ k : Nat, k ≤ 4 ∧ i = .int .i64 k ∧ OB 5 wr w.heap.size (.slice A1 l.length c1) (turnTo k l a m) ∧
      Blk wr g 67 #[.int .u8 (n8 (byt m 0)), .int .u8 (n8 (byt m 1)), .int .u8 (n8 (byt m 2)), .int .u8 (n8 (byt m 3))] ∧ Below w.heap.size w wr) (fun _ i _ => 4 - (intOf i).toNat)
  case atStart => exact ⟨0, by omega, rfl, by rw [turnTo_zero]; exact hown3.out, hBk.out, hb4'.out⟩
  case round =>
    obtain ⟨k, hk, rfl, hown, hB, hb⟩ := hrel
    have hlen := turnTo_length k l a m
    by_cases h : k < 4
    · have hk0 : (0 : Int) ≤ (k : Int) := by omega
      by_cases h1 : -(k : Int) ≤ a ∧ a < (l.length : Int) - k
      · obtain ⟨h1, h2⟩ := h1
        obtain ⟨q, hq⟩ : ∃ q : Nat, a + (k : Int) = q := ⟨(a + k).toNat, by omega⟩
        have hql : q < l.length := by omega
        obtain ⟨hh1, hh2⟩ := turnTo_hit k l a m q (by omega) hql h
        have hgm : (#[Value.int .u8 (n8 (byt m 0)), .int .u8 (n8 (byt m 1)), .int .u8 (n8 (byt m 2)), .int .u8 (n8 (byt m 3))] : Array Value)[k]? = some (.int .u8 (n8 (byt m k))) := by
          match k, h with
          | 0, _ => rfl
          | 1, _ => rfl
          | 2, _ => rfl
          | 3, _ => rfl
        obtain ⟨gb, rfl, hgb1, hgb2⟩ := hown.form (by omega)
        have hc1 := hown.cell q (by omega)
        rw [hh2] at hc1
        have hc2 := (hB.cell k).trans hgm
        have hf1 := hown.frozen q
        have hgne : gb ≠ g := by have := hA2.out _ rfl; simp at this; omega
        have hst := Lib.hid (hown.stored q (l[q] ^^^ byt m k))
        rw [← hh1] at hst
        have hBs := Lib.hid (hB.far (p := ⟨gb, q, none⟩) (by simpa using Ne.symm hgne) (.int .u8 (n8 (l[q] ^^^ byt m k))))
        have hbs := Lib.hid (hb.setCell (p := ⟨gb, q, none⟩) hgb1 (.int .u8 (n8 (l[q] ^^^ byt m k))))
        clear hown hB hb hh1 hh2 hgm hlen
        go_wp2
        go_region
        go_wp2
        go_roundw
        case rel => exact ⟨k + 1, by omega, by go_num, hst.out.drew, hBs.out.drew, hbs.out.drew⟩
        case measure => simp [intOf]; omega
      · have hm' := turnTo_miss k l a m h1
        rw [← hm'] at hown
        clear hm' hlen hA2
        have hown' := Lib.hid hown
        clear hown
        by_cases h2 : -(k : Int) ≤ a
        · have h3 : ¬ (a < (l.length : Int) - k) := fun e => h1 ⟨h2, e⟩
          have h4 : (l.length : Int) - k ≤ a := by omega
          clear h1
          go_wp2
          go_roundw
          case rel => exact ⟨k + 1, by omega, by go_num, hown'.out, hB, hb⟩
          case measure => simp [intOf]; omega
        · clear h1
          go_wp2
          go_roundw
          case rel => exact ⟨k + 1, by omega, by go_num, hown'.out, hB, hb⟩
          case measure => simp [intOf]; omega
    · have hk4 : k = 4 := by omega
      subst hk4
      have hown' := Lib.hid hown
      clear hown hlen
      go_wp2
      go_ret
      exact ⟨_, rfl, hown'.out, hb⟩
end Crc
end Go.Proofs.Ytpkbdodclkgjpaa

