/- The walks of the sums of 32 bits: what each function of crc and of its reference returns. No condition but sizes. -/
import Derived.Test.YtgkcbhijkcbjkaaDoorChecked
import Derived.Test.YtgkcbhijkcbjkaaDoorGrow
import Derived.Test.YtgkcbhijkcbjkaaDoorCrcSpec
import Derived.WalkKit
import Derived.WalkLawsBesides
import Derived.WalkSpells
import Derived.Deep.QuietTactic
import Derived.BigQuiet
import Derived.Deep.RegionLaw
import Derived.Deep.RegionHeld3
set_option linter.unusedVariables false
set_option linter.unusedSimpArgs false
namespace Go.Proofs.YtgkcbhijkcbjkaaDoor
open Go Go.RowKit W
namespace Crc

theorem byteType : ByteType Tryd.prog 5 := ⟨by kernel_rfl, by kernel_rfl⟩
/-- The table of half bytes, as it lies. -/
def Halves (w : World) : Prop := ∀ i, i < 16 → w.cell? ⟨0, i, none⟩ = some (.int .u32 (n32 (table.getD i 0)))
theorem Halves.gr {w w' : World} (h : Halves w) (hlt : 0 < w.heap.size) (hg : Gr w w') : Halves w' := fun i hi => (hg.cell (p := ⟨0, i, none⟩) hlt).trans (h i hi)
theorem Halves.lt {w : World} (h : Halves w) : 0 < w.heap.size := World.block_lt_of_cell? w _ (h 0 (by omega))

set_option maxHeartbeats 400000 in
theorem more_any (st : UInt32) (A : Option Addr) (c B : Nat) (l : List UInt8) (w : World) (hs : l.length ≤ 1099511627776) (hrd : RB w B A l) (hH : Halves w) :
    Calls Tryd.prog 48 #[.int .u32 (n32 st), .slice A l.length c] w fun e w' => e = .returned (.int .u32 (n32 (more st l))) ∧ w = w' := by
  have hT : ∀ x : UInt32, w.cell? ⟨0, (n32 (x &&& 15)).toNat, none⟩ = some (.int .u32 (n32 (tab (x &&& 15)))) := fun x => hH _ (and15_lt x)
  have hL : ∀ x : UInt32, n32 (x &&& 15) < 16 := fun x => by have := and15_lt x; unfold n32; omega
  have hrd' := Lib.hid hrd
  clear hrd hH
  go_enter Tryd.func48, Tryd.ntmps48
  go_wp2
  go_loop [0, 9] (fun s i => ∃ k : Nat, k ≤ l.length ∧ s = .int .u32 (n32 (more st (l.take k))) ∧ i = .int .i64 k) (fun _ i => l.length - (intOf i).toNat)
  case atStart => exact ⟨0, Nat.zero_le _, rfl, rfl⟩
  case round =>
    obtain ⟨k, hk, rfl, rfl⟩ := hrel
    by_cases h : k < l.length
    · obtain ⟨ad, rfl, _, hc⟩ := hrd'.out.at_ h
      have hm := Lib.hid (more_snoc st l k h)
      generalize more st (l.take k) = x at *
      go_wp2
      go_round
      case rel => exact ⟨k + 1, by omega, by rw [hm.out, two_nibs], by go_num⟩
      case measure => simp [intOf]; omega
    · have hk' : k = l.length := by omega
      subst hk'
      rw [List.take_length]
      go_wp2
      go_ret
      exact ⟨rfl, rfl⟩

theorem str_get (l : List UInt8) (k : Nat) (h : k < (⟨l.toArray⟩ : ByteArray).size) : (⟨l.toArray⟩ : ByteArray)[k] = l[k]'(by simpa [ByteArray.size] using h) := rfl

set_option maxHeartbeats 400000 in
theorem refMore_any (st : UInt32) (l : List UInt8) (w : World) (hs : l.length ≤ 1099511627776) :
    Calls Tryd.prog 46 #[.int .u32 (n32 st), str l] w fun e w' => e = .returned (.int .u32 (n32 (more st l))) ∧ w = w' := by
  obtain ⟨s, hse⟩ : ∃ s : ByteArray, s = ⟨l.toArray⟩ := ⟨_, rfl⟩
  have hsz : s.size = l.length := by subst hse; simp [ByteArray.size]
  have hget : ∀ k (h : k < s.size) (h' : k < l.length), s[k] = l[k] := by subst hse; exact fun k h h' => rfl
  show Calls _ _ #[.int .u32 (n32 st), .string ⟨l.toArray⟩] _ _
  rw [← hse]
  have hs' : s.size ≤ 1099511627776 := by omega
  have hsz' := Lib.hid hsz
  clear hsz hse
  go_enter Tryd.func46, Tryd.ntmps46
  go_wp2
  go_loop [0, 5] (fun v i => ∃ k : Nat, k ≤ s.size ∧ v = .int .u32 (n32 (more st (l.take k))) ∧ i = .int .i64 k) (fun _ i => s.size - (intOf i).toNat)
  case atStart => exact ⟨0, Nat.zero_le _, rfl, rfl⟩
  case round =>
    obtain ⟨k, hk, rfl, rfl⟩ := hrel
    by_cases h : k < s.size
    · have hm := Lib.hid (more_snoc st l k (by rw [← hsz'.out]; exact h))
      have hg := Lib.hid (hget k h (by rw [← hsz'.out]; exact h))
      clear hget
      generalize more st (l.take k) = x at *
      go_wp2
      go_loop [0, 6] (fun v i => ∃ j : Nat, j ≤ 8 ∧ v = .int .u32 (n32 (bits j (x ^^^ s[k].toUInt32))) ∧ i = .int .i64 j) (fun _ i => 8 - (intOf i).toNat)
      case atStart => exact ⟨0, Nat.zero_le _, rfl, rfl⟩
      case round =>
        obtain ⟨j, hj, rfl, rfl⟩ := hrel
        by_cases hj8 : j < 8
        · have hb : bits (j + 1) (x ^^^ s[k].toUInt32) = bit (bits j (x ^^^ s[k].toUInt32)) := rfl
          have hb' := Lib.hid hb
          clear hb
          generalize bits j (x ^^^ s[k].toUInt32) = y at *
          by_cases h1 : y % 2 = 1
          · have t1 : (n32 (y % 2) == 1) = true := by rw [← n32_one, n32_beq, h1]; rfl
            have hbit := Lib.hid (show bit y = y / 2 ^^^ 3988292384 from if_pos h1)
            clear h1
            go_wp2
            go_round
            case rel => exact ⟨j + 1, by omega, by rw [hb'.out, hbit.out], by go_num⟩
            case measure => simp [intOf]; omega
          · have t1 : (n32 (y % 2) == 1) = false := by rw [← n32_one, n32_beq]; simpa using h1
            have hbit := Lib.hid (show bit y = y / 2 from if_neg h1)
            clear h1
            go_wp2
            go_round
            case rel => exact ⟨j + 1, by omega, by rw [hb'.out, hbit.out], by go_num⟩
            case measure => simp [intOf]; omega
        · have hj' : j = 8 := by omega
          subst hj'
          go_wp2
          go_round
          case rel => exact ⟨k + 1, by omega, by rw [hm.out, hg.out], by go_num⟩
          case measure => simp [intOf]; omega
    · have hk' : k = s.size := by omega
      have hfin : more st (l.take k) = more st l := by rw [hk', hsz'.out, List.take_length]
      rw [hfin]
      clear hfin
      go_wp2
      go_ret
      exact ⟨rfl, rfl⟩

theorem refSum_any (l : List UInt8) (w : World) (hs : l.length ≤ 1099511627776) :
    Calls Tryd.prog 31 #[str l] w fun e w' => e = .returned (.int .u32 (n32 (sum l))) ∧ w = w' := by
  have hc := Lib.hid (refMore_any 4294967295 l w hs)
  have e1 : n32 4294967295 = 4294967295 := rfl
  rw [e1] at hc
  have hsum := Lib.hid (show sum l = 4294967295 ^^^ more 4294967295 l from rfl)
  generalize more 4294967295 l = x at *
  clear e1
  go_enter Tryd.func31, Tryd.ntmps31
  go_wp2_with (go_at_call 46; refine hc.out.mono ?_; rintro e w' ⟨rfl, rfl⟩)
  go_ret
  exact ⟨by rw [hsum.out]; rfl, rfl⟩

theorem flatten_snoc (ls : List (List UInt8)) (k : Nat) (h : k < ls.length) : (ls.take (k + 1)).flatten = (ls.take k).flatten ++ ls[k] := by
  rw [List.take_succ_eq_append_getElem h, List.flatten_append]
  simp

set_option maxHeartbeats 400000 in
theorem sum_any (ls : List (List UInt8)) (v : Value) (w : World) (hv : isBB ls v w) (hn : ls.length ≤ 1000) (hs : ∀ l ∈ ls, l.length ≤ 1099511627776) (hH : Halves w) :
    Calls Tryd.prog 39 #[v] w fun e w' => e = .returned (.int .u32 (n32 (sum ls.flatten))) ∧ w = w' := by
  obtain ⟨Ap, cp, rfl, hcp, hp⟩ := hv
  have hp' := Lib.hid hp
  have hH' := Lib.hid hH
  have hs' := Lib.hid hs
  clear hp hH hs
  go_enter Tryd.func39, Tryd.ntmps39
  go_wp2
  go_loop [3, 8] (fun s i => ∃ k : Nat, k ≤ ls.length ∧ s = .int .u32 (n32 (more 4294967295 (ls.take k).flatten)) ∧ i = .int .i64 k) (fun _ i => ls.length - (intOf i).toNat)
  case atStart => exact ⟨0, Nat.zero_le _, rfl, rfl⟩
  case round =>
    obtain ⟨k, hk, rfl, rfl⟩ := hrel
    by_cases h : k < ls.length
    · obtain ⟨ad, A, c, rfl, hb, hc, _, _, hr⟩ := hp'.out k h
      have hm : more 4294967295 (ls.take (k + 1)).flatten = more (more 4294967295 (ls.take k).flatten) ls[k] := by rw [flatten_snoc ls k h, more_append]
      have hm' := Lib.hid hm
      clear hm
      generalize more 4294967295 (ls.take k).flatten = x at *
      have hcall := Lib.hid (more_any x A c w.heap.size ls[k] w (hs'.out _ (List.getElem_mem h)) hr hH'.out)
      clear hr
      generalize more x ls[k] = y at *
      go_wp2_with (go_at_call 48; refine hcall.out.mono ?_; rintro e w' ⟨rfl, rfl⟩)
      go_round
      case rel => exact ⟨k + 1, by omega, by rw [hm'.out], by go_num⟩
      case measure => simp [intOf]; omega
    · have hk' : k = ls.length := by omega
      subst hk'
      rw [List.take_length]
      have hsum := Lib.hid (show sum ls.flatten = 4294967295 ^^^ more 4294967295 ls.flatten from rfl)
      generalize more 4294967295 ls.flatten = x at *
      go_wp2
      go_ret
      exact ⟨by rw [hsum.out]; rfl, rfl⟩

/-- The bytes of a sum as values. -/
def agg4 (n : UInt32) : Value := .agg #[bv (byt n 0), bv (byt n 1), bv (byt n 2), bv (byt n 3)]
theorem byte_down (n : UInt32) : UInt8.ofInt (n32 n / 2 ^ (8 * 0)) = n.toUInt8 ∧ UInt8.ofInt (n32 n / 2 ^ (8 * 1)) = (n / 256).toUInt8 ∧ UInt8.ofInt (n32 n / 2 ^ (8 * 2)) = (n / 65536).toUInt8 ∧ UInt8.ofInt (n32 n / 2 ^ (8 * 3)) = (n / 16777216).toUInt8 := by
  have key : ∀ m : Nat, UInt8.ofInt (n32 n / (m : Int)) = UInt8.ofNat (n.toNat / m) := fun m => by
    rw [← w_ofNat_u8]; rfl
  have f : ∀ x : UInt32, x.toUInt8 = UInt8.ofNat x.toNat := fun x => rfl
  refine ⟨?_, ?_, ?_, ?_⟩
  · rw [f]; simpa using key 1
  · rw [f]; simpa using key 256
  · rw [f]; simpa using key 65536
  · rw [f]; simpa using key 16777216
theorem byte_at (n : UInt32) : ∀ k, k < 4 → UInt8.ofInt (n32 n / 2 ^ (8 * k)) = byt n k
  | 0, _ => (byte_down n).1
  | 1, _ => (byte_down n).2.1
  | 2, _ => (byte_down n).2.2.1
  | 3, _ => (byte_down n).2.2.2

set_option maxHeartbeats 400000 in
theorem bytes_any (n : UInt32) (w : World) :
    Calls Tryd.prog 38 #[.int .u32 (n32 n)] w fun e w' => e = .returned (agg4 n) ∧ Below w.heap.size w w' := by
  unfold agg4
  go_enter Tryd.func38, Tryd.ntmps38
  go_wp2
  go_loopw [4, 5] (fun _ i wr => ∃ (k : Nat) (cs : Array Value), k ≤ 4 ∧ i = .int .i64 k ∧ cs.size = 4 ∧ Blk wr (w.heap.size + 1) 74 cs ∧ (∀ j, j < k → cs[j]? = some (bv (UInt8.ofInt (n32 n / 2 ^ (8 * j))))) ∧ Blk wr w.heap.size 74 #[.int .u8 0, .int .u8 0, .int .u8 0, .int .u8 0] ∧ Below w.heap.size w wr) (fun _ i _ => 4 - (intOf i).toNat)
  case atStart =>
    exact ⟨0, #[.int .u8 0, .int .u8 0, .int .u8 0, .int .u8 0], by omega, rfl, rfl, by simpa using Blk.new (w.alloc _) 74 _, fun j hj => absurd hj (by omega), (Blk.new w 74 _).alloc _, ((Below.refl _ _).alloc (by simp) _).alloc (by simp) _⟩
  case round =>
    obtain ⟨k, cs, hk, rfl, hs, hB, hc, hB0, hb⟩ := hrel
    by_cases h : k < 4
    · have hcell := hB.cell k
      rw [Array.getElem?_eq_getElem (show k < cs.size by omega)] at hcell
      have hfr := hB.frozen k
      go_wp2
      go_roundw
      case rel =>
        refine ⟨k + 1, _, by omega, by go_num, ?_, hB.set_ k _, fun j hj => ?_, hB0.far (by simp) _, hb.setCell (by simp) _⟩
        · simpa using hs
        · by_cases hjk : j = k
          · subst hjk
            rw [Array.getElem?_setIfInBounds_self_of_lt (by omega)]
            rfl
          · rw [Array.getElem?_setIfInBounds_ne (by omega)]
            exact hc j (by omega)
      case measure => simp [intOf]; omega
    · have hk4 : k = 4 := by omega
      subst hk4
      have c0 := (hB.cell 0).trans (hc 0 (by omega))
      have c1 := (hB.cell 1).trans (hc 1 (by omega))
      have c2 := (hB.cell 2).trans (hc 2 (by omega))
      have c3 := (hB.cell 3).trans (hc 3 (by omega))
      rw [byte_at n 0 (by omega)] at c0
      rw [byte_at n 1 (by omega)] at c1
      rw [byte_at n 2 (by omega)] at c2
      rw [byte_at n 3 (by omega)] at c3
      have d0 := hB0.cell 0
      have d1 := hB0.cell 1
      have d2 := hB0.cell 2
      have d3 := hB0.cell 3
      have f0 := hB0.frozen 0
      have f1 := hB0.frozen 1
      have f2 := hB0.frozen 2
      have f3 := hB0.frozen 3
      clear hc
      simp only [bv, List.size_toArray, List.length_cons, List.length_nil, Nat.reduceAdd, Nat.reduceLT, getElem?_pos, List.getElem_toArray, List.getElem_cons_zero, List.getElem_cons_succ] at c0 c1 c2 c3 d0 d1 d2 d3
      go_wp2
      refine bodyPost_ret (v := .agg #[bv (byt n 0), bv (byt n 1), bv (byt n 2), bv (byt n 3)]) ?_ rfl ⟨rfl, ?_⟩
      · simp [results, Tryd.results38, go_sem, d0, d1, d2, d3, bv]
      · exact (((hb.setCell (by simp) _).setCell (by simp) _).setCell (by simp) _).setCell (by simp) _

theorem isBB_one {w : World} {A : Option Addr} {c : Nat} {l : List UInt8} (hr : RB w w.heap.size A l) (hc : l.length ≤ c) (hm : c ≤ maxLen) (t : TypeId) :
    isBB [l] (.slice (some ⟨w.heap.size, 0, none⟩) 1 1) (w.alloc (.cells #[.slice A l.length c] t)) := by
  refine ⟨_, 1, rfl, Nat.le_refl _, fun i hi => ?_⟩
  have h0 : i = 0 := by simp at hi; exact hi
  subst h0
  refine ⟨⟨w.heap.size, 0, none⟩, A, c, rfl, by simp, ?_, hc, hm, (hr.alloc (Nat.le_refl _) _).more (by simp)⟩
  simp [Addr.add]

set_option maxHeartbeats 400000 in
theorem seal_any (A : Option Addr) (c : Nat) (l : List UInt8) (w : World) (hs : l.length ≤ 1099511627776) (hc : l.length ≤ c) (hm : c ≤ maxLen) (hr : RB w w.heap.size A l) (hH : Halves w) :
    Calls Tryd.prog 32 #[.slice A l.length c] w fun e w' => ∃ v, e = .returned v ∧ OB 5 w' w.heap.size v (sealed l) ∧ Below w.heap.size w w' := by
  have hHlt := hH.lt
  have hcall := Lib.hid (sum_any [l] _ (w.alloc (.cells #[.slice A l.length c] 22)) (isBB_one hr hc hm _) (by simp) (by intro x hx; simp at hx; subst hx; exact hs) (hH.gr hHlt ((Gr.refl w).alloc _)))
  have e1 : [l].flatten = l := by simp
  rw [e1] at hcall
  clear e1
  have hse := Lib.hid (show sealed l = l ++ bytes (sum l) from rfl)
  have hr' := Lib.hid hr
  clear hr hH
  generalize sum l = x at *
  have hb4 := Lib.hid (bytes_any x)
  unfold agg4 at hb4
  have hby := Lib.hid (show bytes x = [byt x 0, byt x 1, byt x 2, byt x 3] from rfl)
  generalize byt x 0 = x0 at *
  generalize byt x 1 = x1 at *
  generalize byt x 2 = x2 at *
  generalize byt x 3 = x3 at *
  go_enter Tryd.func32, Tryd.ntmps32
  go_wp2_with (first
    | (go_at_call 39; refine hcall.out.mono ?_; rintro e w' ⟨rfl, rfl⟩)
    | (go_at_call 38; refine (hb4.out _).mono ?_; rintro e w1 ⟨rfl, hb1⟩))
  have hb2 : Below w.heap.size w w1 := ((Below.refl _ _).alloc (Nat.le_refl _) _).trans (hb1.mono (by simp))
  have hr1 := hr'.out.below hb2
  have hBk := RB.of_blk (l := [x0, x1, x2, x3]) (B := w1.heap.size + 1) (Blk.new w1 74 #[.int .u8 (n8 x0), .int .u8 (n8 x1), .int .u8 (n8 x2), .int .u8 (n8 x3)]) (by omega)
  have hr2 := hr1.alloc hb2.size (.cells #[.int .u8 (n8 x0), .int .u8 (n8 x1), .int .u8 (n8 x2), .int .u8 (n8 x3)] 74)
  have hb3 := hb2.alloc hb2.size (.cells #[.int .u8 (n8 x0), .int .u8 (n8 x1), .int .u8 (n8 x2), .int .u8 (n8 x3)] 74)
  have hsz : (w1.alloc (.cells #[.int .u8 (n8 x0), .int .u8 (n8 x1), .int .u8 (n8 x2), .int .u8 (n8 x3)] 74)).heap.size = w1.heap.size + 1 := by simp
  have hle : w.heap.size ≤ w1.heap.size := hb2.size
  generalize w1.heap.size = g at *
  generalize w1.alloc (.cells #[.int .u8 (n8 x0), .int .u8 (n8 x1), .int .u8 (n8 x2), .int .u8 (n8 x3)] 74) = w2 at *
  clear hb1 hb2 hr1
  have hr2' := Lib.hid hr2
  have hBk' := Lib.hid hBk
  have hb3' := Lib.hid hb3
  have hsz' := Lib.hid hsz
  clear hr2 hBk hb3 hsz
  have hB8 : (g + 1) ≤ w2.heap.size := by rw [hsz'.out]; exact Nat.le_refl _
  have hown0 := Lib.hid (OB.made (E := 5) (base := g + 1) w2 hB8)
  have hra := Lib.hid (((hr2'.out.alloc (o := .cells #[] 5) (by omega)).drew))
  have hb0 := Lib.hid (((hBk'.out.alloc (o := .cells #[] 5) (by omega)).drew))
  have hbl := Lib.hid ((hb3'.out.alloc (by omega) (.cells #[] 5)).drew)
  go_region_law (first
    | (refine step_append_bytes _ rfl (.tmp 8) (.tmp 9) 22 rfl (g + 1) 5 Tryd.underlying22 byteType _ [] rfl (by exact hown0.out.drew) w.heap.size A c l.length l rfl rfl (by exact hra.out) (by simp; omega) (by simp; omega) l rfl l.length rfl ?_; intro A1 c1 w3 hown1 hbw1)
    | (refine step_append_bytes _ rfl (.tmp 10) (.tmp 11) 22 rfl (g + 1) 5 Tryd.underlying22 byteType _ l rfl hown1 (g + 1) (some ⟨g, 0, none⟩) 4 4 [x0, x1, x2, x3] rfl rfl (by exact hb0.out.below hbw1) (by simp; omega) (by have := hbw1.size; simp at this; omega) (sealed l) (by rw [hse.out, hby.out]) (l.length + 4) (by rw [hse.out, hby.out]; simp) ?_; intro A2 c2 w4 hown2 hbw2))
  have hfin : Below w.heap.size w w4 := (hbl.out.trans (hbw1.mono (by omega))).trans (hbw2.mono (by omega))
  clear hown1 hbw1 hbw2
  go_wp2
  go_ret
  exact ⟨_, rfl, OB.base_le (base := w.heap.size) hown2 (by omega), hfin⟩
end Crc
end Go.Proofs.YtgkcbhijkcbjkaaDoor

