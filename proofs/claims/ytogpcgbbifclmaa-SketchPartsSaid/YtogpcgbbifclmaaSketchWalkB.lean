/- The walks of sketch.Merge and of the reference's Alike. No condition. -/
import Derived.Test.YtogpcgbbifclmaaSketchWalk
set_option linter.unusedVariables false
set_option linter.unusedSimpArgs false
namespace Go.Proofs.Ytogpcgbbifclmaa
open Go Go.RowKit W
namespace Sk
set_option maxHeartbeats 1000000 in
theorem refAlike_any (a b : List UInt64) (w : World) (ha : a.length = 8) (hb : b.length = 8) :
    Calls Try.prog 13 #[.agg (vs a), .agg (vs b)] w fun e w' => e = .returned (.int .i64 (alike a b : Int)) ∧ Gr w w' := by
  have ba := Lib.hid ((Blk.new w 30 (vs a)).alloc (.cells (vs b) 30))
  have bb := Blk.new (w.alloc (.cells (vs a) 30)) 30 (vs b)
  rw [World.size_alloc] at bb
  replace bb := Lib.hid bb
  have g0 := Lib.hid (((Gr.refl w).alloc (.cells (vs a) 30)).alloc (.cells (vs b) 30))
  go_enter Try.func13, Try.ntmps13
  go_wp2
  go_loopw [5, 6] (fun c i wr => ∃ k : Nat, k ≤ 8 ∧ i = .int .i64 (k : Int) ∧ c = .int .i64 (part a b k : Int) ∧ Blk wr w.heap.size 30 (vs a) ∧ Blk wr (w.heap.size + 1) 30 (vs b) ∧ Gr w wr) (fun _ i _ => 8 - (intOf i).toNat)
  case atStart => exact ⟨0, by omega, rfl, rfl, ba.out, bb.out, g0.out⟩
  case round =>
    obtain ⟨k, hk, rfl, rfl, ka, kb, hg⟩ := hrel
    clear ba bb g0
    by_cases h : k < 8
    · have ca : wr.cell? ⟨w.heap.size, k, none⟩ = some (.int .u64 (n64 (a[k]'(by omega)))) := by rw [ka.cell, vs_at, List.getElem?_eq_getElem (by omega)]; rfl
      have cb : wr.cell? ⟨w.heap.size + 1, k, none⟩ = some (.int .u64 (n64 (b[k]'(by omega)))) := by rw [kb.cell, vs_at, List.getElem?_eq_getElem (by omega)]; rfl
      have hp := part_succ (a := a) (b := b) (by omega) (k := k) (by omega) (by omega)
      have hpl := part_le a b k
      replace ka := Lib.hid ka
      replace kb := Lib.hid kb
      replace hg := Lib.hid hg
      have z1 : (k : Int) < 8 := by omega
      have z2 : 0 ≤ (k : Int) := by omega
      have z3 : (k : Int).toNat = k := by omega
      generalize a[k]'(by omega) = x at *
      generalize b[k]'(by omega) = y at *
      cases he : (x == y)
      · rw [he] at hp
        go_wp2
        go_quiet (fail)
        go_wp2
        go_roundw
        case rel => exact ⟨k + 1, by omega, by simp, by rw [hp]; simp, ka.out.drewN _, kb.out.drewN _, below_drewN hg.out _⟩
        case measure => simp [intOf]; omega
      · rw [he] at hp
        go_wp2
        go_quiet (fail)
        go_wp2
        go_roundw
        case rel => exact ⟨k + 1, by omega, by simp, by rw [hp]; simp, ka.out.drewN _, kb.out.drewN _, below_drewN hg.out _⟩
        case measure => simp [intOf]; omega
    · obtain rfl : k = 8 := by omega
      go_wp2
      go_ret
      rw [part_all (by omega) ha]
      exact ⟨rfl, hg⟩

theorem min_lesser (x y : UInt64) : (if n64 y < n64 x then n64 y else n64 x) = n64 (lesser x y) := by
  unfold lesser
  by_cases h : y < x
  · rw [if_pos h, if_pos]
    have := UInt64.lt_iff_toNat_lt.1 h
    simp only [n64_def]
    omega
  · rw [if_neg h, if_neg]
    intro h'
    refine h (UInt64.lt_iff_toNat_lt.2 ?_)
    simp only [n64_def] at h'
    omega
/-- What is merged when k numbers are. -/
def mg (a b : List UInt64) (k : Nat) : List UInt64 := (merge a b).take k ++ a.drop k
theorem merge_length {a b : List UInt64} (ha : a.length = 8) (hb : b.length = 8) : (merge a b).length = 8 := by unfold merge; rw [List.length_map, List.length_zip]; omega
theorem mg_length {a b : List UInt64} (ha : a.length = 8) (hb : b.length = 8) {k : Nat} (hk : k ≤ 8) : (mg a b k).length = 8 := by
  have := merge_length ha hb
  unfold mg
  rw [List.length_append, List.length_take, List.length_drop]
  omega
theorem mg_at {a b : List UInt64} (ha : a.length = 8) (hb : b.length = 8) {k : Nat} (hk : k < 8) : (mg a b k)[k]? = some (a[k]'(by omega)) := by
  have := merge_length ha hb
  unfold mg
  rw [List.getElem?_append_right (by simp; omega), List.length_take, Nat.min_eq_left (by omega), Nat.sub_self, List.getElem?_drop, Nat.add_zero, List.getElem?_eq_getElem]
theorem mg_set {a b : List UInt64} (ha : a.length = 8) (hb : b.length = 8) {k : Nat} (hk : k < 8) : (mg a b k).set k (lesser (a[k]'(by omega)) (b[k]'(by omega))) = mg a b (k + 1) := by
  have hl := merge_length ha hb
  have e : (merge a b)[k]'(by omega) = lesser (a[k]'(by omega)) (b[k]'(by omega)) := by unfold merge; simp
  unfold mg
  rw [List.set_append_right _ _ (by simp; omega), List.length_take, Nat.min_eq_left (by omega), Nat.sub_self, List.drop_eq_getElem_cons (i := k) (by omega), List.set_cons_zero,
    List.take_succ_eq_append_getElem (by omega), e, List.append_assoc]
  rfl
theorem mg_all {a b : List UInt64} (ha : a.length = 8) (hb : b.length = 8) : mg a b 8 = merge a b := by
  have := merge_length ha hb
  unfold mg
  rw [List.take_of_length_le (by omega), List.drop_of_length_le (by omega), List.append_nil]
set_option maxHeartbeats 2000000 in
theorem merge_any (a b : List UInt64) (w : World) (ha : a.length = 8) (hb : b.length = 8) :
    Calls Try.prog 11 #[.agg (vs a), .agg (vs b)] w fun e w' => e = .returned (.agg (vs (merge a b))) ∧ Gr w w' := by
  have ba := Lib.hid (((Blk.new w 30 (vs a)).alloc (.cells (vs b) 30)).alloc (.cells (vs (List.replicate 8 0)) 30))
  have bb := (Blk.new (w.alloc (.cells (vs a) 30)) 30 (vs b)).alloc (.cells (vs (List.replicate 8 0)) 30)
  rw [World.size_alloc] at bb
  replace bb := Lib.hid bb
  have bc := Blk.new ((w.alloc (.cells (vs a) 30)).alloc (.cells (vs b) 30)) 30 (vs (List.replicate 8 0))
  rw [World.size_alloc, World.size_alloc] at bc
  replace bc := Lib.hid bc
  have g0 := Lib.hid ((((Gr.refl w).alloc (.cells (vs a) 30)).alloc (.cells (vs b) 30)).alloc (.cells (vs (List.replicate 8 0)) 30))
  go_enter Try.func11, Try.ntmps11
  go_wp2
  go_loopw [5, 6] (fun _ i wr => ∃ k : Nat, k ≤ 8 ∧ i = .int .i64 (k : Int) ∧ Blk wr w.heap.size 30 (vs (mg a b k)) ∧ Blk wr (w.heap.size + 1) 30 (vs b) ∧ Blk wr (w.heap.size + 2) 30 (vs (List.replicate 8 0)) ∧ Gr w wr) (fun _ i _ => 8 - (intOf i).toNat)
  case atStart => exact ⟨0, by omega, rfl, ba.out, bb.out, bc.out, g0.out⟩
  case round =>
    obtain ⟨k, hk, rfl, ka, kb, kc, hg⟩ := hrel
    clear ba bb bc g0
    by_cases h : k < 8
    · have ca : wr.drew.cell? ⟨w.heap.size, k, none⟩ = some (.int .u64 (n64 (a[k]'(by omega)))) := by rw [ka.drew.cell, vs_at, mg_at ha hb h]; rfl
      have cb : wr.drew.cell? ⟨w.heap.size + 1, k, none⟩ = some (.int .u64 (n64 (b[k]'(by omega)))) := by rw [kb.drew.cell, vs_at, List.getElem?_eq_getElem (by omega)]; rfl
      have fa := ka.drew.frozen k
      have ca' : wr.cell? ⟨w.heap.size, k, none⟩ = some (.int .u64 (n64 (a[k]'(by omega)))) := ca
      have cb' : wr.cell? ⟨w.heap.size + 1, k, none⟩ = some (.int .u64 (n64 (b[k]'(by omega)))) := cb
      have fa' := ka.frozen k
      have hs := mg_set ha hb h
      have hset := ka.set_ k (.int .u64 (n64 (lesser (a[k]'(by omega)) (b[k]'(by omega)))))
      rw [vs_set, hs] at hset
      have kb' := Lib.hid (kb.far (p := ⟨w.heap.size, k, none⟩) (by simp) (.int .u64 (n64 (lesser (a[k]'(by omega)) (b[k]'(by omega))))))
      have kc' := Lib.hid (kc.far (p := ⟨w.heap.size, k, none⟩) (by simp) (.int .u64 (n64 (lesser (a[k]'(by omega)) (b[k]'(by omega))))))
      have hg' := Lib.hid (hg.setCell (p := ⟨w.heap.size, k, none⟩) (Nat.le_refl _) (.int .u64 (n64 (lesser (a[k]'(by omega)) (b[k]'(by omega))))))
      replace hset := Lib.hid hset
      clear ka kb kc hg hs
      have z1 : (k : Int) < 8 := by omega
      have z2 : 0 ≤ (k : Int) := by omega
      have z3 : (k : Int).toNat = k := by omega
      generalize a[k]'(by omega) = x at *
      generalize b[k]'(by omega) = y at *
      go_wp2
      go_region
      rw [min_lesser]
      go_wp2
      go_roundw
      case rel => exact ⟨k + 1, by omega, by simp, hset.out, kb'.out, kc'.out, Gr.drew hg'.out⟩
      case measure => simp [intOf]; omega
    · obtain rfl : k = 8 := by omega
      rw [mg_all ha hb] at ka
      have hm := merge_length ha hb
      have kc' := Lib.hid (kc.row (vs (merge a b)))
      have hg' := Lib.hid (below_setRow hg (show w.heap.size ≤ w.heap.size + 2 by omega) (vs (merge a b)))
      replace ka := Lib.hid ka
      replace kc := Lib.hid kc
      clear kb hg
      go_wp2_with (first
        | refine wpList_load_row rfl 30 _ rfl w.heap.size rfl 30 (vs (merge a b)) (0, 0) _ ka.out Try.underlying30 rfl (info8' hm) ?_
        | refine wpList_store_row rfl 30 _ _ rfl (w.heap.size + 1 + 1) (vs (merge a b)) rfl rfl 30 (vs (List.replicate 8 0)) kc.out (info8' hm) (by rw [vs_size, vs_size, hm]; rfl) (vs_cells _) ?_)
      refine bodyPost_ret (results_cell_row Try.results11 _ _ (w.heap.size + 1 + 1) 30 _ (0, 0) _ rfl kc'.out Try.underlying30 rfl (info8' hm)) rfl ⟨rfl, hg'.out⟩
end Sk
end Go.Proofs.Ytogpcgbbifclmaa

