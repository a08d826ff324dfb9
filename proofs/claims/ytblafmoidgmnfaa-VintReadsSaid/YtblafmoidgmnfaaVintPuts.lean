/- The walk of VintPuts: whatever the arguments, it returns true and writes nothing that was there. No condition. -/
import Derived.Test.YtblafmoidgmnfaaVintActs
set_option linter.unusedVariables false
set_option linter.unusedSimpArgs false
namespace Go.Proofs.Ytblafmoidgmnfaa
open Go Go.RowKit W
namespace Vint
theorem bytesOf_length {a : ActT} (h : a.s.length ≤ 200) : (bytesOf a).length ≤ 210 := by
  have hn : ∀ x : UInt64, (num x.toNat).length ≤ 10 := fun x => num_length 9 _ (Nat.lt_of_lt_of_le x.toNat_lt (by decide))
  have ht : (num a.s.length).length ≤ 10 := num_length 9 _ (Nat.lt_of_le_of_lt h (by decide))
  rcases kind_ways a with ⟨_, hb⟩ | ⟨_, hb⟩ | ⟨_, hb⟩ | ⟨_, _, _, hb⟩ <;> rw [hb]
  · have := hn a.n; omega
  · have := hn a.n; omega
  · unfold text; rw [List.length_append]; omega
  · unfold sum; rw [List.length_append, be8_length, be8_length]; omega
theorem few_true {ls : List ActT} (h : few ls = true) : ls.length ≤ 40 ∧ ∀ a ∈ ls, a.s.length ≤ 200 := by
  unfold few at h
  rw [Bool.and_eq_true, decide_eq_true_eq, List.all_eq_true] at h
  exact ⟨h.1, fun a ha => by simpa using h.2 a ha⟩
def allB (ls : List ActT) : List UInt8 := ls.flatMap bytesOf
theorem allB_succ {ls : List ActT} {k : Nat} (h : k < ls.length) : allB (ls.take (k + 1)) = allB (ls.take k) ++ bytesOf ls[k] := by
  unfold allB
  rw [List.take_succ_eq_append_getElem h, List.flatMap_append]
  simp
set_option maxHeartbeats 4000000 in
theorem vintPuts_walk (A1 : Option Addr) (c1 : Nat) (l1 : List UInt8) (A2 : Option Addr) (c2 : Nat) (ls : List ActT) (w : World)
    (hc1 : l1.length ≤ c1) (hm1 : c1 ≤ maxLen) (hr1 : RB w w.heap.size A1 l1) (hl : LA w w.heap.size A2 ls) :
    Calls Try.prog 3 #[.slice A1 l1.length c1, .slice A2 ls.length c2] w (Ret (eqv (.bool true)) w) := by
  have hfw := Lib.hid (few_any A2 c2 ls w hl)
  have haw := Lib.hid (awake_any w)
  by_cases hf : few ls = true
  · by_cases h200 : 200 < l1.length
    · have h200i : (200 : Int) < (l1.length : Int) := by omega
      clear hm1 hr1 hl
      go_enter Try.func3, Try.ntmps3
      go_wp2_with fail
      refine hfw.out.mono ?_
      rintro e w1 ⟨rfl, rfl⟩
      clear hfw
      go_wp2_with fail
      refine haw.out.mono ?_
      rintro e w1 ⟨v, rfl, hv, hg⟩
      obtain rfl : v = .bool true := hv
      replace hg := Lib.hid hg
      clear haw
      go_wp2
      go_ret
      exact ⟨_, rfl, rfl, hg.out⟩
    · have h200i : ¬ (200 : Int) < (l1.length : Int) := by omega
      obtain ⟨hf40, hfs⟩ := few_true hf
      have hown0 := Lib.hid (OB.made (E := 5) (base := w.heap.size) w (Nat.le_refl _))
      have hg0 := Lib.hid ((Gr.refl w).alloc (.cells #[] 5))
      have hr0 := Lib.hid (hr1.alloc (Nat.le_refl _) (.cells #[] 5))
      have hl' := Lib.hid hl
      have hfs' := Lib.hid hfs
      clear hr1 hl hm1 hfs
      go_enter Try.func3, Try.ntmps3
      go_wp2_with fail
      refine hfw.out.mono ?_
      rintro e w1 ⟨rfl, rfl⟩
      clear hfw
      rw [hf]
      have hf' := Lib.hid hf
      clear hf
      go_wp2_with (first
        | (refine wpList_append_bytes _ rfl (.tmp 17) (.tmp 18) 22 rfl w.heap.size 5 Try.underlying22 byteType _ [] rfl (by exact hown0.out) w.heap.size _ _ _ l1 rfl rfl (by exact hr0.out) (by simp; omega) (by simp) l1 rfl l1.length rfl ?_; intro A3 c3 w3 hown1 hbel1; have hcv := run_bytes_string (P := Try.prog) w3 22 9 5 Try.underlying22 byteType.1 Try.underlying9 w.heap.size A1 c1 l1.length l1 rfl (hr0.out.below hbel1))
        | (refine step_append_bytes _ rfl (.tmp 17) (.tmp 18) 22 rfl w.heap.size 5 Try.underlying22 byteType _ [] rfl (by exact hown0.out) w.heap.size _ _ _ l1 rfl rfl (by exact hr0.out) (by simp; omega) (by simp) l1 rfl l1.length rfl ?_; intro A3 c3 w3 hown1 hbel1; have hcv := run_bytes_string (P := Try.prog) w3 22 9 5 Try.underlying22 byteType.1 Try.underlying9 w.heap.size A1 c1 l1.length l1 rfl (hr0.out.below hbel1)))
      have hg1 : Gr w w3 := Below.trans hg0.out hbel1
      go_loopw [5, 6, 7] (fun b s i wr => ∃ (k : Nat) (o : List UInt8), k ≤ ls.length ∧ i = .int .i64 (k : Int) ∧ s = .string ⟨o.toArray⟩ ∧ OB 5 wr w.heap.size b o ∧ Gr w wr ∧ o.length ≤ 200 + 210 * k) (fun _ _ i _ => ls.length - (intOf i).toNat)
      case atStart => exact ⟨0, l1, by omega, rfl, rfl, hown1, hg1, by omega⟩
      case round =>
        obtain ⟨k, o, hk, rfl, rfl, hown, hg, hol⟩ := hrel
        clear hown1 hbel1 hg1 hcv hown0 hg0 hr0
        by_cases h : k < ls.length
        · obtain ⟨ad, hA, hlt, e0, e1, e2, e3, e4⟩ := (hl'.out.below hg).at_ h
          subst hA
          have hs := hfs'.out ls[k] (List.getElem_mem h)
          generalize ls[k] = a at *
          have hbl := bytesOf_length hs
          obtain ⟨A0, c0, rfl, hcl, hcm⟩ := hown.shape
          have hpu := Lib.hid (put_any A0 c0 o a wr (by omega) (by omega) hown.rb)
          have hg' := Lib.hid hg
          clear hown hg
          go_wp2_with fail
          refine hpu.out.mono ?_
          rintro e w4 ⟨A4, c4, rfl, hown4, hg4⟩
          have e0' := (hg4.cell (p := ad.add (k * 5)) (by rw [block_of_add]; exact Nat.lt_of_lt_of_le hlt hg'.out.size)).trans e0
          have e1' := (hg4.cell (p := ⟨(ad.add (k * 5)).block, (ad.add (k * 5)).off + 1, none⟩) (by show (ad.add (k * 5)).block < _; rw [block_of_add]; exact Nat.lt_of_lt_of_le hlt hg'.out.size)).trans e1
          have e2' := (hg4.cell (p := ⟨(ad.add (k * 5)).block, (ad.add (k * 5)).off + 2, none⟩) (by show (ad.add (k * 5)).block < _; rw [block_of_add]; exact Nat.lt_of_lt_of_le hlt hg'.out.size)).trans e2
          have e3' := (hg4.cell (p := ⟨(ad.add (k * 5)).block, (ad.add (k * 5)).off + 3, none⟩) (by show (ad.add (k * 5)).block < _; rw [block_of_add]; exact Nat.lt_of_lt_of_le hlt hg'.out.size)).trans e3
          have e4' := (hg4.cell (p := ⟨(ad.add (k * 5)).block, (ad.add (k * 5)).off + 4, none⟩) (by show (ad.add (k * 5)).block < _; rw [block_of_add]; exact Nat.lt_of_lt_of_le hlt hg'.out.size)).trans e4
          have hby := Lib.hid (bytes_any a w4 (by omega))
          have hown4' := Lib.hid (hown4.base_le hg'.out.size)
          have hg5 := Lib.hid (hg'.out.trans hg4)
          clear hpu hown4 hg4 e0 e1 e2 e3 e4
          go_wp2_with fail
          refine hby.out.mono ?_
          rintro e w5 ⟨rfl, hg6⟩
          have hown5 := Lib.hid (hown4'.out.below hg6)
          have hg7 := Lib.hid (hg5.out.trans hg6)
          clear hby hg6
          go_wp2
          go_roundw
          case rel =>
            have h4 := hown5.out
            rw [List.length_append] at h4
            exact ⟨k + 1, _, by omega, by go_num, rfl, h4, hg7.out, by rw [List.length_append]; omega⟩
          case measure => simp [intOf]; omega
        · obtain rfl : k = ls.length := by omega
          obtain ⟨A0, c0, rfl, hcl, hcm⟩ := hown.shape
          have haw2 := Lib.hid (awake_any wr)
          have hg' := Lib.hid hg
          have hrb := Lib.hid hown.rb
          clear hown hg haw
          go_wp2_with fail
          refine haw2.out.mono ?_
          rintro e w4 ⟨v, rfl, hv, hg4⟩
          obtain rfl : v = .bool true := hv
          have hcv2 := run_bytes_string (P := Try.prog) w4 22 9 5 Try.underlying22 byteType.1 Try.underlying9 wr.heap.size A0 c0 o.length o rfl (hrb.out.below hg4)
          have hg5 := Lib.hid (hg'.out.trans hg4)
          clear haw2 hg4 hg'
          go_wp2
          go_ret
          exact ⟨_, rfl, rfl, hg5.out⟩
  · have hff : few ls = false := by simpa using hf
    clear hm1 hr1 hl hf
    go_enter Try.func3, Try.ntmps3
    go_wp2_with fail
    refine hfw.out.mono ?_
    rintro e w1 ⟨rfl, rfl⟩
    clear hfw
    rw [hff]
    clear hff
    go_wp2_with fail
    refine haw.out.mono ?_
    rintro e w1 ⟨v, rfl, hv, hg⟩
    obtain rfl : v = .bool true := hv
    replace hg := Lib.hid hg
    clear haw
    go_wp2
    go_ret
    exact ⟨_, rfl, rfl, hg.out⟩
end Vint
end Go.Proofs.Ytblafmoidgmnfaa
