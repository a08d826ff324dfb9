/- The walks of the sums of 32 bits, second part: sealing and opening by the reference, opening by the program. No condition but sizes. -/
import Derived.Test.YtpkbdodclkgjpaaCrcWalk
set_option linter.unusedVariables false
set_option linter.unusedSimpArgs false
namespace Go.Proofs.Ytpkbdodclkgjpaa
open Go Go.RowKit W
namespace Crc

def downs : Nat → UInt32 → UInt32
  | 0, n => n
  | k + 1, n => downs k n / 256
theorem downs_byte (n : UInt32) : ∀ k, k < 4 → (downs k n % 256).toUInt8 = byt n k := by
  have f : ∀ x : UInt32, (x % 256).toUInt8 = x.toUInt8 := fun x => by
    apply UInt8.toNat_inj.1
    simp
  intro k hk
  rw [f]
  apply UInt8.toNat_inj.1
  match k, hk with
  | 0, _ => rfl
  | 1, _ => rfl
  | 2, _ => simp [downs, byt]; omega
  | 3, _ => simp [downs, byt]; omega

set_option maxRecDepth 100000 in
set_option maxHeartbeats 400000 in
theorem refBytes_any (n : UInt32) (w : World) :
    Calls Try.prog 20 #[.int .u32 (n32 n)] w fun e w' => e = .returned (str (bytes n)) ∧ Below w.heap.size w w' := by
  have hmk : ∀ w, (Instr.makeSlice 44 (.int .i64 4) (.int .i64 4)).run Try.prog w = .ok (.slice (some ⟨w.heap.size, 0, none⟩) 4 4) (w.alloc (.cells #[.int .u8 0, .int .u8 0, .int .u8 0, .int .u8 0] 5)) := fun _ => by kernel_rfl
  go_enter Try.func20, Try.ntmps20
  go_wp2
  clear hmk
  go_loopw [0, 4] (fun v i wr => ∃ (k : Nat) (cs : Array Value), k ≤ 4 ∧ i = .int .i64 k ∧ v = .int .u32 (n32 (downs k n)) ∧ cs.size = 4 ∧ Blk wr w.heap.size 5 cs ∧ (∀ j, j < k → cs[j]? = some (bv (downs j n % 256).toUInt8)) ∧ Below w.heap.size w wr) (fun _ i _ => 4 - (intOf i).toNat)
  case atStart =>
    exact ⟨0, #[.int .u8 0, .int .u8 0, .int .u8 0, .int .u8 0], by omega, rfl, rfl, rfl, Blk.new w 5 _, fun j hj => absurd hj (by omega), (Below.refl _ _).alloc (by simp) _⟩
  case round =>
    obtain ⟨k, cs, hk, rfl, rfl, hs, hB, hc, hb⟩ := hrel
    by_cases h : k < 4
    · have hcell := hB.cell k
      rw [Array.getElem?_eq_getElem (show k < cs.size by omega)] at hcell
      have hfr := hB.frozen k
      have hd := Lib.hid (show downs (k + 1) n = downs k n / 256 from rfl)
      have hc' := Lib.hid hc
      clear hc
      go_wp2
      go_roundw
      case rel =>
        refine ⟨k + 1, _, by omega, by go_num, by rw [hd.out], ?_, hB.set_ k _, fun j hj => ?_, hb.setCell (by simp) _⟩
        · simpa using hs
        · by_cases hjk : j = k
          · subst hjk
            rw [Array.getElem?_setIfInBounds_self_of_lt (by omega)]
            rfl
          · rw [Array.getElem?_setIfInBounds_ne (by omega)]
            exact hc'.out j (by omega)
      case measure => simp [intOf]; omega
    · have hk4 : k = 4 := by omega
      subst hk4
      have hl : cs = (bvs (bytes n)).toArray := by
        apply Array.ext (by simpa [bvs_length, bytes] using hs)
        intro j h1 h2
        have hj : j < 4 := by omega
        have e := hc j hj
        rw [Array.getElem?_eq_getElem h1, downs_byte n j hj] at e
        have e' := Option.some.inj e
        rw [e']
        match j, hj with
        | 0, _ => rfl
        | 1, _ => rfl
        | 2, _ => rfl
        | 3, _ => rfl
      subst hl
      have hlen : (bytes n).length = 4 := rfl
      have hr := Lib.hid (RB.of_blk (B := w.heap.size + 1) hB (by omega))
      clear hB hc hs
      go_wp2_with (refine wpList_bytes_string rfl (.tmp 18) 44 9 5 rfl Try.underlying44 byteType.1 Try.underlying9 _ _ _ _ (bytes n) rfl hlen.symm hr.out ?_)
      go_ret
      exact ⟨rfl, hb⟩

theorem opened_short {l : List UInt8} (h : l.length < 4) : opened l = ([], 4) := if_pos h
theorem opened_bad {l : List UInt8} (h : ¬ l.length < 4) (h2 : bytes (sum (l.take (l.length - 4))) ≠ l.drop (l.length - 4)) : opened l = ([], 12) := by
  unfold opened
  rw [if_neg h, if_neg]
  intro e
  apply h2
  have := congrArg (List.drop (l.take (l.length - 4)).length) e
  rw [sealed, List.drop_left] at this
  rw [this, List.length_take, Nat.min_eq_left (by omega)]
theorem opened_good {l : List UInt8} (h : ¬ l.length < 4) (h2 : bytes (sum (l.take (l.length - 4))) = l.drop (l.length - 4)) : opened l = (l.take (l.length - 4), 0) := by
  unfold opened
  rw [if_neg h, if_pos]
  rw [sealed, h2, List.take_append_drop]

/-- Four bytes as an array's cells. -/
def aggL (l : List UInt8) : Value := .agg (bvs l).toArray
theorem agg4_eq (n : UInt32) : agg4 n = aggL (bytes n) := rfl
def isP4 (l : List UInt8) : Ass := fun v w => ∃ ad, v = .pointer (some ad) ∧ RB w w.heap.size (some ad) l
theorem isP4_lasts (l : List UInt8) : Lasts (isP4 l) := fun _ _ _ hg ⟨ad, hv, hr⟩ => ⟨ad, hv, (hr.below hg).more hg.size⟩
theorem one_ne_zero' : ¬ ((1 : Nat) = 0) := by omega
theorem four {l : List UInt8} (h : l.length = 4) : ∃ a b c d, l = [a, b, c, d] := by
  match l, h with
  | [a, b, c, d], _ => exact ⟨a, b, c, d, rfl⟩
theorem nums_inj (l m : List UInt8) : (l.map n8 == m.map n8) = (l == m) := by
  rw [Bool.eq_iff_iff, beq_iff_eq, beq_iff_eq]
  exact ⟨fun h => (List.map_inj_right (fun x y e => by have := n8_inj x y; rw [← this]; exact e)).1 h, fun h => by rw [h]⟩
theorem aggL_nums (l : List UInt8) : aggL l = .agg ((l.map n8).map (Value.int .u8)).toArray := by
  unfold aggL bvs
  rw [List.map_map]
  rfl
theorem byteInfo : ∃ i, Try.prog.info? 5 = some i ∧ i.zero = some (.int .u8 0) ∧ i.size = 1 ∧ i.bytes = 1 := by
  obtain ⟨i, h1, h2, h3, h4⟩ := info_parts byteType.2
  exact ⟨i, h1, h2, h3, h4⟩
theorem neq_agg (l m : List UInt8) (hl : l.length = 4) (hm : m.length = 4) (x y : Operand) (w : World) :
    (do eqGuard .neq 67 x y (aggL l) (aggL m); binOp .neq 67 (aggL l) (aggL m) : Sem Value).run Try.prog w = .ok (.bool (!(l == m))) w := by
  obtain ⟨i, hi, _⟩ := byteInfo
  rw [aggL_nums, aggL_nums, (run_binOp_ints w Try.underlying67 byteType.1 hi (by kernel_rfl) (by kernel_rfl) (l.map n8) (m.map n8) (by simpa using hl) (by simpa using hm) x y).2, nums_inj]

end Crc
end Go.Proofs.Ytpkbdodclkgjpaa

