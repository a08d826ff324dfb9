/- The walks of the sums of 32 bits: what each function of crc and of its reference returns. No condition but sizes. -/
import Derived.Test.YtpkbdodclkgjpaaChecked
import Derived.Test.YtpkbdodclkgjpaaGrow
import Derived.Test.YtpkbdodclkgjpaaCrcSpec
import Derived.WalkKit
import Derived.WalkLawsBesides
import Derived.WalkSpells
import Derived.Deep.QuietTactic
import Derived.BigQuiet
import Derived.Deep.RegionLaw
import Derived.Deep.RegionHeld3
set_option linter.unusedVariables false
set_option linter.unusedSimpArgs false
namespace Go.Proofs.Ytpkbdodclkgjpaa
open Go Go.RowKit W
namespace Crc

theorem byteType : ByteType Try.prog 5 := ⟨by kernel_rfl, by kernel_rfl⟩
theorem str_get (l : List UInt8) (k : Nat) (h : k < (⟨l.toArray⟩ : ByteArray).size) : (⟨l.toArray⟩ : ByteArray)[k] = l[k]'(by simpa [ByteArray.size] using h) := rfl

theorem flatten_snoc (ls : List (List UInt8)) (k : Nat) (h : k < ls.length) : (ls.take (k + 1)).flatten = (ls.take k).flatten ++ ls[k] := by
  rw [List.take_succ_eq_append_getElem h, List.flatten_append]
  simp

/-- The bytes of a sum as values. -/
def agg4 (n : UInt32) : Value := .agg #[bv (byt n 0), bv (byt n 1), bv (byt n 2), bv (byt n 3)]
theorem byte_down (n : UInt32) : UInt8.ofInt (n32 n / 2 ^ (8 * 0)) = n.toUInt8 ∧ UInt8.ofInt (n32 n / 2 ^ (8 * 1)) = (n / 256).toUInt8 ∧ UInt8.ofInt (n32 n / 2 ^ (8 * 2)) = (n / 65536).toUInt8 ∧ UInt8.ofInt (n32 n / 2 ^ (8 * 3)) = (n / 16777216).toUInt8 := by
  have key : ∀ m : Nat, UInt8.ofInt (n32 n / (m : Int)) = UInt8.ofNat (n.toNat / m) := fun m => by
    rw [← w_ofNat_u8]; rfl
  have f : ∀ x : UInt32, x.toUInt8 = UInt8.ofNat x.toNat := fun x => rfl
  refine ⟨?_, ?_, ?_, ?_⟩
  · rw [f]; simpa using key 1
  · rw [f]; simpa using key 256
  · rw [f]; simpa using key 65536
  · rw [f]; simpa using key 16777216
theorem byte_at (n : UInt32) : ∀ k, k < 4 → UInt8.ofInt (n32 n / 2 ^ (8 * k)) = byt n k
  | 0, _ => (byte_down n).1
  | 1, _ => (byte_down n).2.1
  | 2, _ => (byte_down n).2.2.1
  | 3, _ => (byte_down n).2.2.2

set_option maxRecDepth 100000 in
set_option maxHeartbeats 400000 in
theorem bytes_any (n : UInt32) (w : World) :
    Calls Try.prog 26 #[.int .u32 (n32 n)] w fun e w' => e = .returned (agg4 n) ∧ Below w.heap.size w w' := by
  unfold agg4
  go_enter Try.func26, Try.ntmps26
  go_wp2
  go_loopw [4, 5] (fun _ i wr => ∃ (k : Nat) (cs : Array Value), k ≤ 4 ∧ i = .int .i64 k ∧ cs.size = 4 ∧ Blk wr (w.heap.size + 1) 67 cs ∧ (∀ j, j < k → cs[j]? = some (bv (UInt8.ofInt (n32 n / 2 ^ (8 * j))))) ∧ Blk wr w.heap.size 67 #[.int .u8 0, .int .u8 0, .int .u8 0, .int .u8 0] ∧ Below w.heap.size w wr) (fun _ i _ => 4 - (intOf i).toNat)
  case atStart =>
    exact ⟨0, #[.int .u8 0, .int .u8 0, .int .u8 0, .int .u8 0], by omega, rfl, rfl, by simpa using Blk.new (w.alloc _) 67 _, fun j hj => absurd hj (by omega), (Blk.new w 67 _).alloc _, ((Below.refl _ _).alloc (by simp) _).alloc (by simp) _⟩
  case round =>
    obtain ⟨k, cs, hk, rfl, hs, hB, hc, hB0, hb⟩ := hrel
    by_cases h : k < 4
    · have hcell := hB.cell k
      rw [Array.getElem?_eq_getElem (show k < cs.size by omega)] at hcell
      have hfr := hB.frozen k
      go_wp2
      go_roundw
      case rel =>
        refine ⟨k + 1, _, by omega, by go_num, ?_, hB.set_ k _, fun j hj => ?_, hB0.far (by simp) _, hb.setCell (by simp) _⟩
        · simpa using hs
        · by_cases hjk : j = k
          · subst hjk
            rw [Array.getElem?_setIfInBounds_self_of_lt (by omega)]
            rfl
          · rw [Array.getElem?_setIfInBounds_ne (by omega)]
            exact hc j (by omega)
      case measure => simp [intOf]; omega
    · have hk4 : k = 4 := by omega
      subst hk4
      have c0 := (hB.cell 0).trans (hc 0 (by omega))
      have c1 := (hB.cell 1).trans (hc 1 (by omega))
      have c2 := (hB.cell 2).trans (hc 2 (by omega))
      have c3 := (hB.cell 3).trans (hc 3 (by omega))
      rw [byte_at n 0 (by omega)] at c0
      rw [byte_at n 1 (by omega)] at c1
      rw [byte_at n 2 (by omega)] at c2
      rw [byte_at n 3 (by omega)] at c3
      have d0 := hB0.cell 0
      have d1 := hB0.cell 1
      have d2 := hB0.cell 2
      have d3 := hB0.cell 3
      have f0 := hB0.frozen 0
      have f1 := hB0.frozen 1
      have f2 := hB0.frozen 2
      have f3 := hB0.frozen 3
      clear hc
      simp only [bv, List.size_toArray, List.length_cons, List.length_nil, Nat.reduceAdd, Nat.reduceLT, getElem?_pos, List.getElem_toArray, List.getElem_cons_zero, List.getElem_cons_succ] at c0 c1 c2 c3 d0 d1 d2 d3
      go_wp2
      refine bodyPost_ret (v := .agg #[bv (byt n 0), bv (byt n 1), bv (byt n 2), bv (byt n 3)]) ?_ rfl ⟨rfl, ?_⟩
      · simp [results, Try.results26, go_sem, d0, d1, d2, d3, bv]
      · exact (((hb.setCell (by simp) _).setCell (by simp) _).setCell (by simp) _).setCell (by simp) _

theorem isBB_one {w : World} {A : Option Addr} {c : Nat} {l : List UInt8} (hr : RB w w.heap.size A l) (hc : l.length ≤ c) (hm : c ≤ maxLen) (t : TypeId) :
    isBB [l] (.slice (some ⟨w.heap.size, 0, none⟩) 1 1) (w.alloc (.cells #[.slice A l.length c] t)) := by
  refine ⟨_, 1, rfl, Nat.le_refl _, fun i hi => ?_⟩
  have h0 : i = 0 := by simp at hi; exact hi
  subst h0
  refine ⟨⟨w.heap.size, 0, none⟩, A, c, rfl, by simp, ?_, hc, hm, (hr.alloc (Nat.le_refl _) _).more (by simp)⟩
  simp [Addr.add]

end Crc
end Go.Proofs.Ytpkbdodclkgjpaa

