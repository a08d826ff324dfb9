/- The walks of the sums of 32 bits, fourth part: turning by the reference; the page's examples. No condition but sizes. -/
import Derived.Test.YtpkbdodclkgjpaaCrcWalkC
set_option linter.unusedVariables false
set_option linter.unusedSimpArgs false
namespace Go.Proofs.Ytpkbdodclkgjpaa
open Go Go.RowKit W
namespace Crc

set_option maxRecDepth 100000 in
set_option maxHeartbeats 400000 in
theorem refTurn_any (l : List UInt8) (a : Int) (m : UInt32) (w : World) (hs : l.length ≤ 1099511627776) (ha1 : -9223372036854775808 ≤ a) (ha2 : a ≤ 9223372036854775807) :
    Calls Try.prog 10 #[str l, .int .i64 a, .int .u32 (n32 m)] w fun e w' => e = .returned (str (turned l a m)) ∧ Below w.heap.size w w' := by
  have hb4 := Lib.hid (refBytes_any m w)
  have hget : ∀ k (h : k < (⟨(bytes m).toArray⟩ : ByteArray).size), (⟨(bytes m).toArray⟩ : ByteArray)[k] = byt m k := fun k h => by
    have h' : k < 4 := h
    match k, h' with
    | 0, _ => rfl
    | 1, _ => rfl
    | 2, _ => rfl
    | 3, _ => rfl
  have hsz : (⟨(bytes m).toArray⟩ : ByteArray).size = 4 := rfl
  obtain ⟨ms, hms⟩ : ∃ ms : ByteArray, ms = ⟨(bytes m).toArray⟩ := ⟨_, rfl⟩
  have hb5 : Calls Try.prog 20 #[.int .u32 (n32 m)] w fun e w' => e = .returned (.string ms) ∧ Below w.heap.size w w' := by rw [hms]; exact hb4.out
  rw [← hms] at hget hsz
  clear hms hb4
  have hb4 := Lib.hid hb5
  clear hb5
  have hget' := Lib.hid hget
  clear hget
  go_enter Try.func10, Try.ntmps10
  go_wp2_with (first
    | (go_at_call 20; refine hb4.out.mono ?_; rintro e w1 ⟨rfl, hb1⟩)
    | (refine wpList_string_bytes rfl (.tmp 12) 9 44 5 rfl Try.underlying9 Try.underlying44 byteType.1 l rfl (by unfold maxLen; omega) ?_; intro c1 w2 hwb hlc hcm hb2))
  have hb3 := Lib.hid (hb1.trans (hb2.mono hb1.size))
  have hle := hb1.size
  clear hb1 hb2 hb4
  have hwb' := Lib.hid hwb
  clear hwb
  generalize w1.heap.size = g at *
  go_loopw [9] (fun i wr => ∃ k : Nat, k ≤ 4 ∧ i = .int .i64 k ∧ WB wr w.heap.size g (turnTo k l a m) ∧ Below w.heap.size w wr) (fun i _ => 4 - (intOf i).toNat)
  case atStart => exact ⟨0, by omega, rfl, by rw [turnTo_zero]; exact ⟨hle, hwb'.out.2⟩, hb3.out⟩
  case round =>
    obtain ⟨k, hk, rfl, hown, hb⟩ := hrel
    have hlen := turnTo_length k l a m
    by_cases h : k < 4
    · have hk0 : (0 : Int) ≤ (k : Int) := by omega
      by_cases h1 : -(k : Int) ≤ a ∧ a < (l.length : Int) - k
      · obtain ⟨h1, h2⟩ := h1
        obtain ⟨q, hq⟩ : ∃ q : Nat, a + (k : Int) = q := ⟨(a + k).toNat, by omega⟩
        have hql : q < l.length := by omega
        obtain ⟨hh1, hh2⟩ := turnTo_hit k l a m q (by omega) hql h
        obtain ⟨hc1, hf1⟩ := hown.2.2 q (by omega)
        rw [hh2] at hc1
        have hst := Lib.hid (hown.stored q (by omega) (l[q] ^^^ byt m k))
        rw [← hh1] at hst
        have hbs := Lib.hid (hb.setCell (p := ⟨g, q, none⟩) hle (.int .u8 (n8 (l[q] ^^^ byt m k))))
        have hks : k < ms.size := by omega
        have hgk := hget'.out k hks
        clear hown hb hh1 hh2 hlen
        go_wp2
        go_region
        go_wp2
        go_roundw
        case rel => exact ⟨k + 1, by omega, by go_num, hst.out.drew, hbs.out.drew⟩
        case measure => simp [intOf]; omega
      · have hm' := turnTo_miss k l a m h1
        rw [← hm'] at hown
        clear hm' hlen
        have hown' := Lib.hid hown
        clear hown
        by_cases h2 : -(k : Int) ≤ a
        · have h3 : ¬ (a < (l.length : Int) - k) := fun e => h1 ⟨h2, e⟩
          have h4 : (l.length : Int) - k ≤ a := by omega
          clear h1
          go_wp2
          go_roundw
          case rel => exact ⟨k + 1, by omega, by go_num, hown'.out, hb⟩
          case measure => simp [intOf]; omega
        · clear h1
          go_wp2
          go_roundw
          case rel => exact ⟨k + 1, by omega, by go_num, hown'.out, hb⟩
          case measure => simp [intOf]; omega
    · have hk4 : k = 4 := by omega
      subst hk4
      have hown' := Lib.hid hown
      have hlen' := Lib.hid hlen
      clear hown hlen
      go_wp2_with (refine wpList_bytes_string rfl (.tmp 45) 44 9 5 rfl Try.underlying44 byteType.1 Try.underlying9 _ _ _ _ (turnTo 4 l a m) rfl hlen'.out.symm hown'.out.rb ?_)
      go_ret
      exact ⟨rfl, hb⟩

theorem sum_digits : sum [49, 50, 51, 52, 53, 54, 55, 56, 57] = 3421780262 := by decide +kernel
theorem sealed_nil : sealed [] = [0, 0, 0, 0] := by decide +kernel

end Crc
end Go.Proofs.Ytpkbdodclkgjpaa

