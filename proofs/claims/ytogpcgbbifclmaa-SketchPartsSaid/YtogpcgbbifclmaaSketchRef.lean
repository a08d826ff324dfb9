/- The walks of the reference's Shingles, Least and Of. No condition but sizes. -/
import Derived.Test.YtogpcgbbifclmaaSketchWalkB
import Derived.Test.YtogpcgbbifclmaaOwnRows
set_option linter.unusedVariables false
set_option linter.unusedSimpArgs false
namespace Go.Proofs.Ytogpcgbbifclmaa
open Go Go.RowKit W
namespace Sk
theorem wordType : RowType Try.prog 29 1 8 := by
  obtain ⟨i, h1, h2, h3, h4⟩ := info_parts (show (Try.prog.info? 29).map (fun i => (i.zero, i.size, i.bytes)) = some (some (.int .u64 0), 1, 8) by kernel_rfl)
  exact ⟨i, _, h1, h2, h3, h4, rfl, by omega⟩
theorem _root_.Go.Proofs.Ytogpcgbbifclmaa.Reads.one (w : World) (t : TypeId) (v : Value) : Reads (w.alloc (.cells #[v] t)) (w.heap.size + 1) 1 (some ⟨w.heap.size, 0, none⟩) 1 [v] := by
  refine ⟨rfl, fun _ => ⟨_, rfl, Nat.lt_succ_self _, fun j u hu => ?_⟩⟩
  have hj : j = 0 := by
    cases j with
    | zero => rfl
    | succ j => simp at hu
  subst hj
  obtain rfl : v = u := by simpa using hu
  exact (Blk.new w t #[v]).cell 0
/-- A slice of words of the call's own. -/
def Words (w : World) (ws : List UInt64) : Ending → World → Prop := fun e w' => ∃ A c, e = .returned (.slice A ws.length c) ∧ OR 29 1 w' w.heap.size (.slice A ws.length c) ws.length (ws.map v64) ∧ Gr w w'
/-- All words, in the form of the walk. -/
def all (l : List UInt8) : List UInt64 := shingles l
theorem all_length (l : List UInt8) : (all l).length = if l.length = 0 then 0 else l.length - width l + 1 := shingles_length l
theorem next_word (l : List UInt8) (k : Nat) (hk : k < (all l).length) : (all l)[k] = UInt64.ofNat (num ((l.drop k).take (width l))) + UInt64.ofNat (width l) * 4294967296 := by
  have hl := all_length l
  have h0 : ¬ l.length = 0 := by intro h; rw [if_pos h] at hl; omega
  rw [if_neg h0] at hl
  have hw : width l ≤ l.length := by unfold width; omega
  have e : all l = (List.range (l.length - width l + 1)).map fun j => word (win l j) := by unfold all shingles; rw [if_neg h0]
  have : (all l)[k]? = some (word (win l k)) := by
    rw [e, List.getElem?_map, List.getElem?_range (by omega)]
    rfl
  rw [List.getElem?_eq_getElem hk] at this
  rw [Option.some.inj this]
  unfold word win
  rw [show ((l.drop k).take (width l)).length = width l from by simp; omega, UInt64.ofNat_add, UInt64.ofNat_mul]
  rfl
theorem num_step0 (l : List UInt8) (j : Nat) (h : j < l.length) : UInt64.ofNat (num (l.take (j + 1))) = UInt64.ofNat (num (l.take j)) + UInt64.ofNat (256 ^ j) * l[j].toUInt64 := by
  rw [List.take_succ_eq_append_getElem h, num_snoc, show (l.take j).length = j from by simp; omega, UInt64.ofNat_add, UInt64.ofNat_mul]
  congr 2
  apply UInt64.toNat_inj.1
  simp
theorem num_step (l : List UInt8) (k j : Nat) (h : k + j < l.length) : UInt64.ofNat (num ((l.drop k).take (j + 1))) = UInt64.ofNat (num ((l.drop k).take j)) + UInt64.ofNat (256 ^ j) * l[k + j].toUInt64 := by
  have e : (l.drop k).take (j + 1) = (l.drop k).take j ++ [l[k + j]] := by
    rw [List.take_succ_eq_append_getElem (by simp; omega)]
    simp
  rw [e, num_snoc, show ((l.drop k).take j).length = j from by simp; omega, UInt64.ofNat_add, UInt64.ofNat_mul]
  congr 2
  apply UInt64.toNat_inj.1
  simp

/-- A slot holds a slice of words of the call's own. -/
def OwnW (wr : World) (B : Nat) (o : Value) (k : Nat) (ws : List UInt64) : Prop := ∃ A c, o = .slice A k c ∧ OR 29 1 wr B (.slice A k c) k (ws.map v64)
set_option maxHeartbeats 2000000 in
theorem refShingles_long (l : List UInt8) (w : World) (hs : l.length ≤ 1099511627776) (h4 : 4 ≤ l.length) : Calls Try.prog 8 #[str l] w (Words w (shingles l)) := by
  obtain ⟨s, hse⟩ : ∃ s : ByteArray, s = ⟨l.toArray⟩ := ⟨_, rfl⟩
  have hsz : s.size = l.length := by subst hse; simp [ByteArray.size]
  have hget : ∀ k (h : k < s.size) (h' : k < l.length), s[k] = l[k] := by subst hse; exact fun k h h' => rfl
  have hwd : width l = 4 := by unfold width; omega
  show Calls _ _ #[.string ⟨l.toArray⟩] _ _
  rw [← hse]
  replace hget := Lib.hid hget
  have hszh := Lib.hid hsz
  rw [← hsz] at h4
  have hs' : s.size ≤ 1099511627776 := by omega
  clear hse hsz
  go_enter Try.func8, Try.ntmps8
  go_wp2
  go_loopw [4, 5, 6, 7, 8] (fun o i _ _ _ wr => ∃ (k : Nat), k ≤ (all l).length ∧ i = .int .i64 (k : Int) ∧ OwnW wr w.heap.size o k ((all l).take k) ∧ Gr w wr) (fun _ i _ _ _ _ => s.size + 1 - (intOf i).toNat)
  case atStart => exact ⟨0, by omega, rfl, ⟨none, 0, rfl, World.ownsRow_nil _ _ _ _⟩, Gr.refl w⟩
  case round =>
    obtain ⟨k, hk, rfl, ⟨A0, c0, rfl, ho⟩, hg⟩ := hrel
    replace ho := Lib.hid ho
    replace hg := Lib.hid hg
    by_cases h : k < (all l).length
    · have hall := all_length l
      rw [hwd] at hall
      have hkl : k + 4 ≤ s.size ∧ 0 < 4 := by have := hszh.out; rw [hall] at h; split at h <;> omega
      obtain ⟨hkl, h0⟩ := hkl
      clear hall hk
      have z1 : (k : Int) ≤ (s.size : Int) - 4 := by omega
      have z0 : (0 : Int) < 4 := by omega
      go_wp2
      go_loop [6, 7, 8] (fun a u i => ∃ j : Nat, j ≤ 4 ∧ a = .int .u64 (n64 (UInt64.ofNat (num ((l.drop k).take j)))) ∧ u = .int .u64 (n64 (UInt64.ofNat (256 ^ j))) ∧ i = .int .i64 (j : Int)) (fun _ _ i => 4 - (intOf i).toNat)
      case atStart => exact ⟨0, by omega, rfl, rfl, rfl⟩
      case round =>
        obtain ⟨j, hj, rfl, rfl, rfl⟩ := hrel
        by_cases h' : j < 4
        · have hgt := Lib.hid (hget.out (k + j) (by omega) (by have := hszh.out; omega))
          have hstep := Lib.hid (num_step l k j (by have := hszh.out; omega))
          have z2 : (j : Int) < 4 := by omega
          have z3 : (k : Int) + (j : Int) < (s.size : Int) := by omega
          have z4 : 0 ≤ (k : Int) + (j : Int) := by omega
          have z5 : ((k : Int) + (j : Int)).toNat = k + j := by omega
          go_wp2
          go_round
          case rel =>
            refine ⟨j + 1, by omega, ?_, ?_, by go_num⟩
            · rw [hstep.out, ← hgt.out]
            · rw [Nat.pow_succ, UInt64.ofNat_mul]
              rfl
          case measure => simp [intOf]; omega
        · obtain rfl : j = 4 := by omega
          have hnew := next_word l k h
          rw [hwd] at hnew
          rw [show UInt64.ofNat 4 * 4294967296 = (17179869184 : UInt64) from by decide] at hnew
          replace hnew := Lib.hid hnew
          have ho1 := Lib.hid (ho.out.alloc (.cells #[v64 (UInt64.ofNat (num ((l.drop k).take 4)) + 17179869184)] 29))
          have hb1 := Lib.hid (Reads.one wr 29 (v64 (UInt64.ofNat (num ((l.drop k).take 4)) + 17179869184)))
          have hg1 := Lib.hid (hg.out.alloc (.cells #[v64 (UInt64.ofNat (num ((l.drop k).take 4)) + 17179869184)] 29))
          have hsz1 := hg.out.size
          go_wp2_with (first
            | (refine wpList_append_rows rfl (.tmp 43) (.tmp 49) 27 rfl Try.underlying27 wordType rfl (by exact ho1.out) (wr.heap.size + 1) _ 1 1 [v64 (UInt64.ofNat (num ((l.drop k).take 4)) + 17179869184)] rfl (by exact hb1.out) (by simp [v64, Value.oneCell']) (by unfold maxLen; omega) (by omega) (by simp; omega) _ rfl (k + 1) rfl ?_; intro A1 c1 w1 hown1 hbw1)
            | (refine step_append_rows rfl (.tmp 43) (.tmp 49) 27 rfl Try.underlying27 wordType rfl (by exact ho1.out) (wr.heap.size + 1) _ 1 1 [v64 (UInt64.ofNat (num ((l.drop k).take 4)) + 17179869184)] rfl (by exact hb1.out) (by simp [v64, Value.oneCell']) (by unfold maxLen; omega) (by omega) (by simp; omega) _ rfl (k + 1) rfl ?_; intro A1 c1 w1 hown1 hbw1))
          refine ⟨⟨k + 1, by omega, by go_num, ⟨A1, c1, rfl, ?_⟩, Below.trans hg1.out hbw1⟩, by simp [intOf]; omega⟩
          rw [List.take_succ_eq_append_getElem h, List.map_append]
          have := hown1
          rw [hnew.out]
          exact this
    · obtain rfl : k = (all l).length := by omega
      have hall := all_length l
      rw [hwd] at hall
      have z1 : ¬ ((all l).length : Int) ≤ (s.size : Int) - 4 := by have := hszh.out; split at hall <;> omega
      have hl := Lib.hid hall
      clear hall
      go_wp2
      go_ret
      exact ⟨A0, c0, rfl, by have := ho.out; rwa [List.take_length] at this, hg.out⟩
set_option maxHeartbeats 2000000 in
theorem refShingles_short (l : List UInt8) (w : World) (hs : l.length ≤ 1099511627776) (h4 : l.length < 4) : Calls Try.prog 8 #[str l] w (Words w (shingles l)) := by
  obtain ⟨s, hse⟩ : ∃ s : ByteArray, s = ⟨l.toArray⟩ := ⟨_, rfl⟩
  have hsz : s.size = l.length := by subst hse; simp [ByteArray.size]
  have hget : ∀ k (h : k < s.size) (h' : k < l.length), s[k] = l[k] := by subst hse; exact fun k h h' => rfl
  have hwd : width l = s.size := by unfold width; omega
  show Calls _ _ #[.string ⟨l.toArray⟩] _ _
  rw [← hse]
  replace hget := Lib.hid hget
  have hszh := Lib.hid hsz
  rw [← hsz] at h4
  have hs' : s.size ≤ 1099511627776 := by omega
  clear hse hsz
  go_enter Try.func8, Try.ntmps8
  go_wp2
  go_loopw [4, 5, 6, 7, 8] (fun o i _ _ _ wr => ∃ (k : Nat), k ≤ (all l).length ∧ i = .int .i64 (k : Int) ∧ OwnW wr w.heap.size o k ((all l).take k) ∧ Gr w wr) (fun _ i _ _ _ _ => s.size + 1 - (intOf i).toNat)
  case atStart => exact ⟨0, by omega, rfl, ⟨none, 0, rfl, World.ownsRow_nil _ _ _ _⟩, Gr.refl w⟩
  case round =>
    obtain ⟨k, hk, rfl, ⟨A0, c0, rfl, ho⟩, hg⟩ := hrel
    replace ho := Lib.hid ho
    replace hg := Lib.hid hg
    by_cases h : k < (all l).length
    · obtain rfl : k = 0 := by have := hszh.out; have h2 := all_length l; rw [hwd] at h2; split at h2 <;> omega
      have hall := all_length l
      rw [hwd] at hall
      have hkl : 0 + s.size ≤ s.size ∧ 0 < s.size := by have := hszh.out; rw [hall] at h; split at h <;> omega
      obtain ⟨hkl, h0⟩ := hkl
      clear hall hk
      have z1 : (0 : Int) ≤ (s.size : Int) - (s.size : Int) := by omega
      have z0 : (0 : Int) < (s.size : Int) := by omega
      go_wp2
      go_loop [6, 7, 8] (fun a u i => ∃ j : Nat, j ≤ s.size ∧ a = .int .u64 (n64 (UInt64.ofNat (num (l.take j)))) ∧ u = .int .u64 (n64 (UInt64.ofNat (256 ^ j))) ∧ i = .int .i64 (j : Int)) (fun _ _ i => s.size - (intOf i).toNat)
      case atStart => exact ⟨0, by omega, rfl, rfl, rfl⟩
      case round =>
        obtain ⟨j, hj, rfl, rfl, rfl⟩ := hrel
        by_cases h' : j < s.size
        · have hgt := Lib.hid (hget.out (j) (by omega) (by have := hszh.out; omega))
          have hstep := Lib.hid (num_step0 l j (by have := hszh.out; omega))
          have z2 : (j : Int) < (s.size : Int) := by omega
          have z4 : 0 ≤ (j : Int) := by omega
          go_wp2
          go_round
          case rel =>
            refine ⟨j + 1, by omega, ?_, ?_, by go_num⟩
            · rw [hstep.out, ← hgt.out]
            · rw [Nat.pow_succ, UInt64.ofNat_mul]
              rfl
          case measure => simp [intOf]; omega
        · obtain rfl : j = s.size := by omega
          have hnew := next_word l 0 h
          rw [hwd, List.drop_zero] at hnew
          replace hnew := Lib.hid hnew
          have ho1 := Lib.hid (ho.out.alloc (.cells #[v64 (UInt64.ofNat (num (l.take s.size)) + UInt64.ofNat s.size * 4294967296)] 29))
          have hb1 := Lib.hid (Reads.one wr 29 (v64 (UInt64.ofNat (num (l.take s.size)) + UInt64.ofNat s.size * 4294967296)))
          have hg1 := Lib.hid (hg.out.alloc (.cells #[v64 (UInt64.ofNat (num (l.take s.size)) + UInt64.ofNat s.size * 4294967296)] 29))
          have hsz1 := hg.out.size
          go_wp2_with (first
            | (refine wpList_append_rows rfl (.tmp 43) (.tmp 49) 27 rfl Try.underlying27 wordType rfl (by exact ho1.out) (wr.heap.size + 1) _ 1 1 [v64 (UInt64.ofNat (num (l.take s.size)) + UInt64.ofNat s.size * 4294967296)] rfl (by exact hb1.out) (by simp [v64, Value.oneCell']) (by unfold maxLen; omega) (by omega) (by simp; omega) _ rfl 1 rfl ?_; intro A1 c1 w1 hown1 hbw1)
            | (refine step_append_rows rfl (.tmp 43) (.tmp 49) 27 rfl Try.underlying27 wordType rfl (by exact ho1.out) (wr.heap.size + 1) _ 1 1 [v64 (UInt64.ofNat (num (l.take s.size)) + UInt64.ofNat s.size * 4294967296)] rfl (by exact hb1.out) (by simp [v64, Value.oneCell']) (by unfold maxLen; omega) (by omega) (by simp; omega) _ rfl 1 rfl ?_; intro A1 c1 w1 hown1 hbw1))
          refine ⟨⟨1, by omega, rfl, ⟨A1, c1, rfl, ?_⟩, Below.trans hg1.out hbw1⟩, by simp [intOf] <;> omega⟩
          show OR _ _ _ _ _ (0 + 1) (((all l).take (0 + 1)).map v64)
          rw [List.take_succ_eq_append_getElem h, List.map_append]
          have := hown1
          rw [hnew.out]
          exact this
    · obtain rfl : k = (all l).length := by omega
      have hall := all_length l
      rw [hwd] at hall
      by_cases hz : s.size = 0
      · have z1 : ¬ (0 : Int) < (s.size : Int) := by omega
        have hl := Lib.hid hall
        clear hall
        go_wp2
        go_ret
        exact ⟨A0, c0, rfl, by have := ho.out; rwa [List.take_length] at this, hg.out⟩
      · have h1 : (all l).length = 1 := by have := hszh.out; split at hall <;> omega
        have z2 : (0 : Int) < (s.size : Int) := by omega
        have z3 : ¬ (1 : Int) ≤ (s.size : Int) - (s.size : Int) := by omega
        have ho1 := ho.out
        rw [List.take_length] at ho1
        have hall' : (shingles l).length = 1 := h1
        clear ho hall h hk
        rw [h1] at ho1 ⊢
        have h1h := Lib.hid hall'
        replace ho1 := Lib.hid ho1
        clear h1 hall'
        go_wp2
        go_ret
        refine ⟨A0, c0, by rw [h1h.out]; rfl, ?_, hg.out⟩
        rw [h1h.out]
        exact ho1.out
end Sk
end Go.Proofs.Ytogpcgbbifclmaa

