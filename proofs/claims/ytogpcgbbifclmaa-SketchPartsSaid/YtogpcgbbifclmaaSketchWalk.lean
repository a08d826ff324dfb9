/- The walks of sketch's functions without iterators. No condition but sizes. -/
import Derived.Test.YtogpcgbbifclmaaChecked
import Derived.Test.YtogpcgbbifclmaaRound
import Derived.Test.YtogpcgbbifclmaaMemB
import Derived.Test.YtogpcgbbifclmaaMixWalk
import Derived.Test.YtogpcgbbifclmaaSketchSpec
import Derived.Laws.CopyOwn
set_option linter.unusedVariables false
set_option linter.unusedSimpArgs false
namespace Go.Proofs.Ytogpcgbbifclmaa
open Go Go.RowKit W
namespace Sk
def v64 (x : UInt64) : Value := .int .u64 (n64 x)
def vs (xs : List UInt64) : Array Value := (xs.map v64).toArray
theorem vs_at (xs : List UInt64) (k : Nat) : (vs xs)[k]? = xs[k]?.map v64 := by simp [vs]
theorem vs_set (xs : List UInt64) (k : Nat) (x : UInt64) : (vs xs).setIfInBounds k (.int .u64 (n64 x)) = vs (xs.set k x) := by
  unfold vs
  rw [List.setIfInBounds_toArray]
  congr 1
  exact (List.map_set (f := v64)).symm
theorem eight {α : Type} {xs : List α} (h : xs.length = 8) : ∃ a b c d e f g i, xs = [a, b, c, d, e, f, g, i] := by
  match xs, h with
  | [a, b, c, d, e, f, g, i], _ => exact ⟨a, b, c, d, e, f, g, i, rfl⟩

theorem vs_size (xs : List UInt64) : (vs xs).size = xs.length := by simp [vs]
theorem vs_cells (xs : List UInt64) : (vs xs).all (·.oneCell') = true := by
  rw [Array.all_eq_true_iff_forall_mem]
  intro v hv
  simp only [vs, List.mem_toArray, List.mem_map] at hv
  obtain ⟨x, _, rfl⟩ := hv
  rfl
theorem info8' {xs : List UInt64} (h : xs.length = 8) : (Try.prog.info? 30).map (·.size) = some (vs xs).size := by
  rw [vs_size, h]
  kernel_rfl
theorem info8 : (Try.prog.info? 30).map (·.size) = some 8 := by kernel_rfl
theorem _root_.Go.Proofs.Ytogpcgbbifclmaa.Blk.row {w : World} {g : Nat} {t : TypeId} {cs : Array Value} (h : Blk w g t cs) (us : Array Value) : Blk (w.setRow g us) g t us := setRow_heap w g cs us t (0, 0) h
theorem _root_.Go.Proofs.Ytogpcgbbifclmaa.Blk.rowFar {w : World} {g k : Nat} {t : TypeId} {cs : Array Value} (h : Blk w g t cs) (hk : g ≠ k) (us : Array Value) : Blk (w.setRow k us) g t cs := (setRow_other w k g us hk).trans h
set_option maxHeartbeats 1000000 in
theorem none_any (w : World) : Calls Try.prog 16 #[] w fun e w' => e = .returned (.agg (vs (List.replicate 8 top))) ∧ Gr w w' := by
  have b0 := Lib.hid ((Blk.new w 30 (vs (List.replicate 8 0))).alloc (.cells (vs (List.replicate 8 0)) 30))
  have b1 := Lib.hid (Blk.new (w.alloc (.cells (vs (List.replicate 8 0)) 30)) 30 (vs (List.replicate 8 0)))
  have g0 := Lib.hid (((Gr.refl w).alloc (.cells (vs (List.replicate 8 0)) 30)).alloc (.cells (vs (List.replicate 8 0)) 30))
  go_enter Try.func16, Try.ntmps16
  go_wp2
  go_loopw [2, 3] (fun _ i wr => ∃ (k : Nat) (xs : List UInt64), k ≤ 8 ∧ i = .int .i64 (k : Int) ∧ xs.length = 8 ∧ Blk wr (w.heap.size + 1) 30 (vs xs) ∧ (∀ j, j < k → xs[j]? = some top) ∧ Blk wr w.heap.size 30 (vs (List.replicate 8 0)) ∧ Below w.heap.size w wr) (fun _ i _ => 8 - (intOf i).toNat)
  case atStart =>
    have b1 := b1.out
    rw [World.size_alloc] at b1
    exact ⟨0, List.replicate 8 0, by omega, rfl, by simp, b1, fun j hj => by omega, b0.out, g0.out⟩
  case round =>
    obtain ⟨k, xs, hk, rfl, hl, hb, hq, hb0, hg⟩ := hrel
    clear b0 b1 g0
    by_cases h : k < 8
    · have hc : wr.cell? ⟨w.heap.size + 1, k, none⟩ = some (.int .u64 (n64 (xs[k]'(by omega)))) := by rw [hb.cell, vs_at, List.getElem?_eq_getElem (by omega)]; rfl
      have hf := hb.frozen k
      have hb' := Lib.hid (hb.set_ k (.int .u64 18446744073709551615))
      have hb0' := Lib.hid (hb0.far (p := ⟨w.heap.size + 1, k, none⟩) (by simp) (.int .u64 18446744073709551615))
      have hg' := Lib.hid (hg.setCell (p := ⟨w.heap.size + 1, k, none⟩) (by simp) (.int .u64 18446744073709551615))
      clear hb hb0 hg
      go_wp2
      go_roundw
      case rel =>
        have e : (Value.int IntKind.u64 18446744073709551615) = .int .u64 (n64 top) := rfl
        have h1 := hb'.out
        rw [e, vs_set] at h1
        refine ⟨k + 1, xs.set k top, by omega, by simp, by simpa using hl, ?_, ?_, hb0'.out, hg'.out⟩
        · first | exact h1 | (rw [e]; exact h1)
        · intro j hj
          rw [List.getElem?_set]
          split
          · rw [if_pos (by omega)]
          · exact hq j (by omega)
      case measure => simp [intOf]; omega
    · obtain rfl : k = 8 := by omega
      obtain rfl : xs = List.replicate 8 top := by
        refine List.ext_getElem (by rw [hl]; rfl) (fun j h1 h2 => ?_)
        have := hq j (by omega)
        rw [List.getElem?_eq_getElem h1] at this
        rw [List.getElem_replicate]
        exact Option.some.inj this
      clear hl hq
      have hb' := Lib.hid (hb0.row (vs (List.replicate 8 top)))
      have hg' := Lib.hid (below_setRow hg (Nat.le_refl _) (vs (List.replicate 8 top)))
      replace hb := Lib.hid hb
      replace hb0 := Lib.hid hb0
      clear hg
      go_wp2_with (first
        | refine wpList_load_row rfl 30 _ rfl (w.heap.size + 1) rfl 30 (vs (List.replicate 8 top)) (0, 0) _ hb.out Try.underlying30 rfl (info8' List.length_replicate) ?_
        | refine wpList_store_row rfl 30 _ _ rfl w.heap.size (vs (List.replicate 8 top)) rfl rfl 30 (vs (List.replicate 8 0)) hb0.out (info8' List.length_replicate) (by rw [vs_size, vs_size]; rfl) (vs_cells _) ?_)
      refine bodyPost_ret (results_cell_row Try.results16 _ _ w.heap.size 30 _ (0, 0) _ rfl hb'.out Try.underlying30 rfl (info8' List.length_replicate)) rfl ⟨rfl, hg'.out⟩

set_option maxHeartbeats 1000000 in
theorem word_any (A : Option Addr) (c B : Nat) (l : List UInt8) (w : World) (hs : l.length ≤ 4) (hB : B ≤ w.heap.size) (hr : RB w B A l) :
    Calls Try.prog 15 #[.slice A l.length c] w fun e w' => e = .returned (.int .u64 (n64 (word l))) ∧ w = w' := by
  have hrh := Lib.hid hr
  clear hr
  go_enter Try.func15, Try.ntmps15
  go_wp2
  go_loop [3, 4, 5, 12] (fun v _ _ i => ∃ k : Nat, k ≤ l.length ∧ v = .int .u64 (n64 (upto l k)) ∧ i = .int .i64 (k : Int)) (fun _ _ _ i => l.length - (intOf i).toNat)
  case atStart => exact ⟨0, by omega, by rw [upto_zero, UInt64.ofNat_mul]; rfl, rfl⟩
  case round =>
    obtain ⟨k, hk, rfl, rfl⟩ := hrel
    by_cases h : k < l.length
    · obtain ⟨ad, rfl, _, hc1⟩ := hrh.out.at_ (k := k) h
      have z0 : 0 ≤ 8 * (k : Int) := by omega
      have z1 : 8 * (k : Int) < 64 := by omega
      go_wp2
      go_round
      case rel =>
        refine ⟨k + 1, by omega, ?_, by simp⟩
        have hk4 : k = 0 ∨ k = 1 ∨ k = 2 ∨ k = 3 := by omega
        rw [upto_or l k h hs _ (by rcases hk4 with rfl | rfl | rfl | rfl <;> rfl)]
      case measure => simp [intOf]; omega
    · obtain rfl : k = l.length := by omega
      go_wp2
      go_ret
      rw [upto_all]
      exact ⟨rfl, rfl⟩

theorem zip_take {a b : List UInt64} (hl : a.length = b.length) {k : Nat} (hk : k < a.length) (hb : k < b.length) : (a.zip b).take (k + 1) = (a.zip b).take k ++ [(a[k], b[k])] := by
  rw [List.take_succ_eq_append_getElem (by simp; omega)]
  simp
def part (a b : List UInt64) (k : Nat) : Nat := (((a.zip b).take k).filter fun p => p.1 == p.2).length
theorem part_succ {a b : List UInt64} (hl : a.length = b.length) {k : Nat} (hk : k < a.length) (hb : k < b.length) : part a b (k + 1) = part a b k + if a[k] == b[k] then 1 else 0 := by
  unfold part
  rw [zip_take hl hk hb, List.filter_append, List.length_append]
  cases h : (a[k] == b[k]) <;> simp [h]
theorem part_all {a b : List UInt64} (hl : a.length = b.length) (h8 : a.length = 8) : part a b 8 = alike a b := by
  unfold part alike
  rw [List.take_of_length_le (by simp; omega)]
theorem part_le (a b : List UInt64) (k : Nat) : part a b k ≤ k := by
  unfold part
  refine Nat.le_trans (List.length_filter_le ..) ?_
  simp
  omega

theorem vs_eq (xs : List UInt64) : vs xs = ((xs.map n64).map (Value.int .u64)).toArray := by
  unfold vs
  rw [List.map_map]
  rfl
theorem map_n64_beq (a b : List UInt64) : (a.map n64 == b.map n64) = (a == b) := by
  rw [Bool.eq_iff_iff, beq_iff_eq, beq_iff_eq]
  constructor
  · intro h
    refine List.ext_getElem? (fun i => ?_)
    have := congrArg (fun l => l[i]?) h
    simp only [List.getElem?_map] at this
    cases hx : a[i]? with
    | none => rw [hx] at this; cases hy : b[i]? with
      | none => rfl
      | some y => rw [hy] at this; cases this
    | some x => rw [hx] at this; cases hy : b[i]? with
      | none => rw [hy] at this; cases this
      | some y =>
        rw [hy] at this
        have h' : n64 x = n64 y := Option.some.inj this
        rw [n64_inj] at h'
        rw [h']
  · rintro rfl; rfl
theorem run_equal8 (d : Nat) (hd : d = 10000) (a b : List UInt64) (ha : a.length = 8) (hb : b.length = 8) (w : World) : (Op.equalIn d 30 (.agg (vs a)) (.agg (vs b))).run Try.prog w = .ok (a == b) w := by
  subst hd
  obtain ⟨i, hi⟩ : ∃ i, Try.prog.info? 29 = some i := ⟨_, rfl⟩
  rw [vs_eq, vs_eq, ← map_n64_beq]
  exact run_equal_ints w 9998 Try.underlying30 Try.underlying29 hi (by kernel_rfl) _ _ (by simpa using ha) (by simpa using hb)
set_option maxHeartbeats 1000000 in
theorem alike_any (a b : List UInt64) (w : World) (ha : a.length = 8) (hb : b.length = 8) :
    Calls Try.prog 12 #[.agg (vs a), .agg (vs b)] w fun e w' => e = .returned (.int .i64 (alike a b : Int)) ∧ Gr w w' := by
  have ba := Lib.hid ((Blk.new w 30 (vs a)).alloc (.cells (vs b) 30))
  have bb := Blk.new (w.alloc (.cells (vs a) 30)) 30 (vs b)
  rw [World.size_alloc] at bb
  replace bb := Lib.hid bb
  have g0 := Lib.hid (((Gr.refl w).alloc (.cells (vs a) 30)).alloc (.cells (vs b) 30))
  have heq := run_equal8 10000 rfl a b ha hb
  cases hab : (a == b)
  rotate_left
  · have hv : Hid (a = b) := Lib.hid (by simpa using hab)
    rw [hab] at heq
    clear hab
    go_enter Try.func12, Try.ntmps12
    go_wp2_with (first
      | refine wpList_load_row rfl 30 _ rfl w.heap.size rfl 30 (vs a) (0, 0) _ ba.out Try.underlying30 rfl (info8' ha) ?_
      | refine wpList_load_row rfl 30 _ rfl (w.heap.size + 1) rfl 30 (vs b) (0, 0) _ bb.out Try.underlying30 rfl (info8' hb) ?_)
    go_ret
    have := hv.out
    subst this
    exact ⟨by rw [alike_same, ha]; rfl, g0.out⟩
  · rw [hab] at heq
    clear hab
    go_enter Try.func12, Try.ntmps12
    go_wp2_with (first
      | refine wpList_load_row rfl 30 _ rfl w.heap.size rfl 30 (vs a) (0, 0) _ ba.out Try.underlying30 rfl (info8' ha) ?_
      | refine wpList_load_row rfl 30 _ rfl (w.heap.size + 1) rfl 30 (vs b) (0, 0) _ bb.out Try.underlying30 rfl (info8' hb) ?_)
    go_loopw [5, 6, 10] (fun c _ i wr => ∃ k : Nat, k ≤ 8 ∧ i = .int .i64 (k : Int) ∧ c = .int .i64 (part a b k : Int) ∧ Blk wr w.heap.size 30 (vs a) ∧ Blk wr (w.heap.size + 1) 30 (vs b) ∧ Gr w wr) (fun _ _ i _ => 8 - (intOf i).toNat)
    case atStart => exact ⟨0, by omega, rfl, rfl, ba.out, bb.out, g0.out⟩
    case round =>
      obtain ⟨k, hk, rfl, rfl, ka, kb, hg⟩ := hrel
      clear ba bb g0
      by_cases h : k < 8
      · have ca : wr.cell? ⟨w.heap.size, k, none⟩ = some (.int .u64 (n64 (a[k]'(by omega)))) := by rw [ka.cell, vs_at, List.getElem?_eq_getElem (by omega)]; rfl
        have cb : wr.cell? ⟨w.heap.size + 1, k, none⟩ = some (.int .u64 (n64 (b[k]'(by omega)))) := by rw [kb.cell, vs_at, List.getElem?_eq_getElem (by omega)]; rfl
        have hp := part_succ (a := a) (b := b) (by omega) (k := k) (by omega) (by omega)
        have hpl := part_le a b k
        replace ka := Lib.hid ka
        replace kb := Lib.hid kb
        replace hg := Lib.hid hg
        have z1 : (k : Int) < 8 := by omega
        have z2 : 0 ≤ (k : Int) := by omega
        have z3 : (k : Int).toNat = k := by omega
        generalize a[k]'(by omega) = x at *
        generalize b[k]'(by omega) = y at *
        cases he : (x == y)
        · rw [he] at hp
          go_wp2
          go_quiet (fail)
          go_wp2
          go_roundw
          case rel => exact ⟨k + 1, by omega, by simp, by rw [hp]; simp, ka.out.drewN _, kb.out.drewN _, below_drewN hg.out _⟩
          case measure => simp [intOf]; omega
        · rw [he] at hp
          go_wp2
          go_quiet (fail)
          go_wp2
          go_roundw
          case rel => exact ⟨k + 1, by omega, by simp, by rw [hp]; simp, ka.out.drewN _, kb.out.drewN _, below_drewN hg.out _⟩
          case measure => simp [intOf]; omega
      · obtain rfl : k = 8 := by omega
        go_wp2
        go_ret
        rw [part_all (by omega) ha]
        exact ⟨rfl, hg⟩
end Sk
end Go.Proofs.Ytogpcgbbifclmaa

