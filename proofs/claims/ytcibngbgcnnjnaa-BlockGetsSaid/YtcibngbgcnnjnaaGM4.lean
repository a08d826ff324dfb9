/- Texts that the law rests on, merged. No condition. -/
import Derived.Test.YtcibngbgcnnjnaaGM1
import Derived.Test.YtcibngbgcnnjnaaGM2
import Derived.Test.YtcibngbgcnnjnaaGM3
set_option linter.unusedVariables false
set_option linter.unusedSimpArgs false
namespace Go.Proofs.Ytcibngbgcnnjnaa
open Go Go.RowKit W
namespace Vint
theorem refEnd_any (s : RS) (w : World) : Calls Try.prog 42 #[rsV s] w fun e w' => e = .returned (.int .i64 (ended s : Int)) ∧ Gr w w' := by
  have hb0 := Blk.new w 77 #[.string ⟨s.1.toArray⟩, .int .i64 (s.2 : Int)]
  have hg := Lib.hid ((Gr.refl w).alloc (.cells #[.string ⟨s.1.toArray⟩, .int .i64 (s.2 : Int)] 77))
  have q0 := hb0.cell 0
  have q1 := hb0.cell 1
  clear hb0
  by_cases h0 : s.2 = 0
  · have hci : ((s.2 : Int) == 0) = true := by simp [h0]
    by_cases hl : 0 < s.1.length
    · have hli : (0 : Int) < (s.1.length : Int) := by omega
      have hf := Lib.hid (show ended s = 5 from if_pos ⟨h0, hl⟩)
      clear h0 hl
      go_enter Try.func42, Try.ntmps42
      go_wp2
      go_ret
      rw [hf.out]
      exact ⟨rfl, hg.out⟩
    · have hli : ¬ (0 : Int) < (s.1.length : Int) := by omega
      have hf := Lib.hid (show ended s = s.2 by unfold ended; rw [if_neg (fun h => hl h.2)])
      clear h0 hl
      go_enter Try.func42, Try.ntmps42
      go_wp2
      go_ret
      rw [hf.out]
      exact ⟨rfl, hg.out⟩
  · have hci : ((s.2 : Int) == 0) = false := by simp; omega
    have hf := Lib.hid (show ended s = s.2 from if_neg (fun h => h0 h.1))
    clear h0
    go_enter Try.func42, Try.ntmps42
    go_wp2
    go_ret
    rw [hf.out]
    exact ⟨rfl, hg.out⟩
abbrev getSV (r : RS × (UInt64 × UInt64)) : Value := .tuple #[rsV r.1, .agg #[.int .u64 (n64 r.2.1), .int .u64 (n64 r.2.2)]]
theorem fold8_take (l : List UInt8) (k : Nat) (h : k < l.length) : fold8 (l.take (k + 1)) = fold8 (l.take k) * 256 + (l[k]).toUInt64 := by
  rw [List.take_succ_eq_append_getElem h, fold8_snoc]
theorem pair2 {w : World} {g1 g2 : Nat} {t1 t2 : TypeId} {a0 a1 c0 c1 : Value} (h1 : Blk w g1 t1 #[a0, a1]) (h2 : Blk w g2 t2 #[c0, c1]) (hne : g1 ≠ g2) (u0 u1 v0 v1 : Value) :
    (w.frozen? ⟨g1, 0, none⟩ = false ∧ w.cell? ⟨g1, 0, none⟩ = some a0 ∧ (w.setCell ⟨g1, 0, none⟩ u0).frozen? ⟨g1, 1, none⟩ = false ∧ (w.setCell ⟨g1, 0, none⟩ u0).cell? ⟨g1, 1, none⟩ = some a1) ∧
    (((w.setCell ⟨g1, 0, none⟩ u0).setCell ⟨g1, 1, none⟩ u1).frozen? ⟨g2, 0, none⟩ = false ∧ ((w.setCell ⟨g1, 0, none⟩ u0).setCell ⟨g1, 1, none⟩ u1).cell? ⟨g2, 0, none⟩ = some c0 ∧
      (((w.setCell ⟨g1, 0, none⟩ u0).setCell ⟨g1, 1, none⟩ u1).setCell ⟨g2, 0, none⟩ v0).frozen? ⟨g2, 1, none⟩ = false ∧ (((w.setCell ⟨g1, 0, none⟩ u0).setCell ⟨g1, 1, none⟩ u1).setCell ⟨g2, 0, none⟩ v0).cell? ⟨g2, 1, none⟩ = some c1) ∧
    (w.frozen? ⟨g1, 1, none⟩ = false ∧ w.cell? ⟨g1, 1, none⟩ = some a1 ∧ w.frozen? ⟨g2, 0, none⟩ = false ∧ w.cell? ⟨g2, 0, none⟩ = some c0 ∧ w.frozen? ⟨g2, 1, none⟩ = false ∧ w.cell? ⟨g2, 1, none⟩ = some c1) ∧
    Blk ((((w.setCell ⟨g1, 0, none⟩ u0).setCell ⟨g1, 1, none⟩ u1).setCell ⟨g2, 0, none⟩ v0).setCell ⟨g2, 1, none⟩ v1) g1 t1 #[u0, u1] ∧ Blk ((((w.setCell ⟨g1, 0, none⟩ u0).setCell ⟨g1, 1, none⟩ u1).setCell ⟨g2, 0, none⟩ v0).setCell ⟨g2, 1, none⟩ v1) g2 t2 #[v0, v1] := by
  obtain ⟨p0, p1, p2, p3, hb⟩ := h1.pair u0 u1
  have h2' := (h2.far (p := ⟨g1, 0, none⟩) (by show g2 ≠ g1; omega) u0).far (p := ⟨g1, 1, none⟩) (by show g2 ≠ g1; omega) u1
  obtain ⟨r0, r1, r2, r3, hc⟩ := h2'.pair v0 v1
  exact ⟨⟨p0, p1, p2, p3⟩, ⟨r0, r1, r2, r3⟩, ⟨h1.frozen 1, h1.cell 1, h2.frozen 0, h2.cell 0, h2.frozen 1, h2.cell 1⟩,
    (hb.far (p := ⟨g2, 0, none⟩) hne v0).far (p := ⟨g2, 1, none⟩) hne v1, hc⟩
/-- Four stores beneath 'Below'. -/
theorem below4 {B g1 g2 : Nat} {a w : World} (h : Below B a w) (h1 : B ≤ g1) (h2 : B ≤ g2) (u0 u1 v0 v1 : Value) : Below B a ((((w.setCell ⟨g1, 0, none⟩ u0).setCell ⟨g1, 1, none⟩ u1).setCell ⟨g2, 0, none⟩ v0).setCell ⟨g2, 1, none⟩ v1) :=
  Below.setCell (Below.setCell (Below.setCell (Below.setCell h (p := ⟨g1, 0, none⟩) h1 u0) (p := ⟨g1, 1, none⟩) h1 u1) (p := ⟨g2, 0, none⟩) h2 v0) (p := ⟨g2, 1, none⟩) h2 v1
set_option maxRecDepth 100000 in
set_option maxHeartbeats 4000000 in
theorem refSum2_any (s : RS) (w : World) (hsz : s.1.length ≤ 1099511627776) : Calls Try.prog 41 #[rsV s] w fun e w' => e = .returned (getSV (getSum s)) ∧ Gr w w' := by
  have hb0 := ((Blk.new w 77 #[.string ⟨s.1.toArray⟩, .int .i64 (s.2 : Int)]).alloc (.cells #[.string ⟨#[]⟩, .int .i64 0] 77)).alloc (.cells #[.int .u64 0, .int .u64 0] 31)
  have hb1 := (Blk.new (w.alloc (.cells #[.string ⟨s.1.toArray⟩, .int .i64 (s.2 : Int)] 77)) 77 #[.string ⟨#[]⟩, .int .i64 0]).alloc (.cells #[.int .u64 0, .int .u64 0] 31)
  have hb2 := Blk.new ((w.alloc (.cells #[.string ⟨s.1.toArray⟩, .int .i64 (s.2 : Int)] 77)).alloc (.cells #[.string ⟨#[]⟩, .int .i64 0] 77)) 31 #[.int .u64 0, .int .u64 0]
  rw [World.size_alloc] at hb1
  rw [World.size_alloc, World.size_alloc] at hb2
  have hg1 := (((Gr.refl w).alloc (.cells #[.string ⟨s.1.toArray⟩, .int .i64 (s.2 : Int)] 77)).alloc (.cells #[.string ⟨#[]⟩, .int .i64 0] 77)).alloc (.cells #[.int .u64 0, .int .u64 0] 31)
  obtain ⟨w1, hw1⟩ : ∃ w1, w1 = ((w.alloc (.cells #[.string ⟨s.1.toArray⟩, .int .i64 (s.2 : Int)] 77)).alloc (.cells #[.string ⟨#[]⟩, .int .i64 0] 77)).alloc (.cells #[.int .u64 0, .int .u64 0] 31) := ⟨_, rfl⟩
  rw [← hw1] at hb0 hb1 hb2 hg1
  have q0 : w1.cell? ⟨w.heap.size, 0, none⟩ = some (.string ⟨s.1.toArray⟩) := hb0.cell 0
  have q1 : w1.cell? ⟨w.heap.size, 1, none⟩ = some (.int .i64 (s.2 : Int)) := hb0.cell 1
  replace hb0 := Lib.hid hb0
  replace hb1 := Lib.hid hb1
  replace hb2 := Lib.hid hb2
  replace hg1 := Lib.hid hg1
  replace hw1 := Lib.hid hw1
  by_cases he : s.2 = 0
  · have hci : ((s.2 : Int) == 0) = true := by simp [he]
    by_cases hl : s.1.length < 16
    · have hli : (s.1.length : Int) < 16 := by omega
      have hv : Hid (getSum s = (([], 4), (0, 0))) := by unfold getSum; rw [if_pos he, if_pos hl]; exact Lib.hid rfl
      have hfl := Lib.hid (fail_any s 4 w1)
      clear he hl
      go_enter Try.func41, Try.ntmps41
      go_wp2_with fail
      rw [← hw1.out]
      refine hfl.out.mono ?_
      rintro e w2 ⟨rfl, hgr⟩
      obtain ⟨⟨f0, d0, f1, d1⟩, ⟨f2, d2, f3, d3⟩, ⟨f4, d4, f5, d5, f6, d6⟩, hb3, hb4⟩ := pair2 (hb1.out.below hgr hb1.out.lt) (hb2.out.below hgr hb2.out.lt) (by omega) (.string ⟨#[]⟩) (.int .i64 4) (.int .u64 0) (.int .u64 0)
      have z0 := hb3.cell 0
      have z1 := hb3.cell 1
      have z2 := hb4.cell 0
      have z3 := hb4.cell 1
      have hge := Lib.hid (below4 (hg1.out.trans hgr) (Nat.le_succ _) (show w.heap.size ≤ w.heap.size + 1 + 1 by omega) (.string ⟨#[]⟩) (.int .i64 4) (.int .u64 0) (.int .u64 0))
      clear hgr hb3 hb4 hfl
      go_wp2
      refine bodyPost_ret (v := getSV (([], 4), (0, 0))) (by simp [results, Try.results41, go_sem, z0, z1, z2, z3]) rfl ⟨by rw [hv.out], hge.out⟩
    · have hli : ¬ (s.1.length : Int) < 16 := by omega
      obtain ⟨l, er⟩ := s
      have hl16 : 16 ≤ l.length := by show 16 ≤ (l, er).1.length; omega
      obtain rfl : er = 0 := he
      have hli : ¬ (l.length : Int) < 16 := by omega
      have hv : Hid (getSum (l, 0) = (((l.drop 16).take (l.length - 16), 0), (word8 l, word8 (l.drop 8)))) := by
        have hde : (l.drop 16).take (l.length - 16) = l.drop 16 := List.take_of_length_le (by rw [List.length_drop]; exact Nat.le_refl _)
        unfold getSum
        rw [if_pos rfl, if_neg hl, hde]
        exact Lib.hid rfl
      have hget : ∀ k (h : k < l.length), (⟨l.toArray⟩ : ByteArray)[k]'h = l[k] := fun k h => rfl
      clear hl
      go_enter Try.func41, Try.ntmps41
      go_wp2_with fail
      have hb4' := Blk.new w1 31 #[.int .u64 0, .int .u64 0]
      have hg4 := Lib.hid ((Gr.refl w1).alloc (.cells #[.int .u64 0, .int .u64 0] 31))
      have hw1' : Hid ((((w.alloc (.cells #[.string ⟨l.toArray⟩, .int .i64 0] 77)).alloc (.cells #[.string ⟨#[]⟩, .int .i64 0] 77)).alloc (.cells #[.int .u64 0, .int .u64 0] 31)) = w1) := Lib.hid hw1.out.symm
      rw [hw1'.out]
      have hsz1 : w1.heap.size = w.heap.size + 1 + 1 + 1 := by rw [hw1.out]; simp
      rw [hsz1] at hb4'
      have hb4 := Lib.hid hb4'
      replace hsz1 := Lib.hid hsz1
      clear hb4' hw1'
      go_loopw [5] (fun i wr => ∃ k : Nat, k ≤ 8 ∧ i = .int .i64 (k : Int) ∧ Gr w1 wr ∧ Blk wr (w.heap.size + 1 + 1 + 1) 31 #[.int .u64 (n64 (fold8 (l.take k))), .int .u64 (n64 (fold8 ((l.drop 8).take k)))]) (fun i _ => 8 - (intOf i).toNat)
      case atStart => exact ⟨0, by omega, rfl, hg4.out, hb4.out⟩
      case round =>
        obtain ⟨k, hk, rfl, hg, hb⟩ := hrel
        clear hb4 hg4
        have hB := hb0.out.below hg hb0.out.lt
        by_cases h : k < 8
        · have hki : (k : Int) < 8 := by omega
          have hkl : (k : Int) < (l.length : Int) := by omega
          have hkl8 : (8 : Int) + (k : Int) < (l.length : Int) := by omega
          have e1 := Lib.hid (fold8_take l k (by omega))
          have e2 := Lib.hid (fold8_take (l.drop 8) k (by rw [List.length_drop]; omega))
          have e3 : (l.drop 8)[k]'(by rw [List.length_drop]; omega) = l[8 + k]'(by omega) := List.getElem_drop
          rw [e3] at e2
          clear e3
          generalize fold8 (l.take k) = x at *
          generalize fold8 ((l.drop 8).take k) = y at *
          have c0 := hb.cell 0
          have c1 := hb.cell 1
          have f0 := hb.frozen 0
          have f1 := hb.frozen 1
          have q0' : wr.cell? ⟨w.heap.size, 0, none⟩ = some (.string ⟨l.toArray⟩) := hB.cell 0
          have hb' := Lib.hid hb
          have hB' := Lib.hid hB
          have hg' := Lib.hid hg
          clear hb hB hg
          go_wp2
          go_region
          have hbA : Blk (wr.setCell ⟨w.heap.size + 1 + 1 + 1, 0, none⟩ (.int .u64 (n64 (x * 256 + (l[k]'(by omega)).toUInt64)))) (w.heap.size + 1 + 1 + 1) 31 #[.int .u64 (n64 (x * 256 + (l[k]'(by omega)).toUInt64)), .int .u64 (n64 y)] := hb'.out.set_ 0 _
          have hBA := hB'.out.far (p := ⟨w.heap.size + 1 + 1 + 1, 0, none⟩) (by show w.heap.size ≠ w.heap.size + 1 + 1 + 1; omega) (.int .u64 (n64 (x * 256 + (l[k]'(by omega)).toUInt64)))
          have c0A := hbA.cell 0
          have c1A := hbA.cell 1
          have f0A := hbA.frozen 0
          have f1A := hbA.frozen 1
          have q0A : (wr.setCell ⟨w.heap.size + 1 + 1 + 1, 0, none⟩ (.int .u64 (n64 (x * 256 + (l[k]'(by omega)).toUInt64)))).cell? ⟨w.heap.size, 0, none⟩ = some (.string ⟨l.toArray⟩) := hBA.cell 0
          have hbC : Hid (Blk ((wr.setCell ⟨w.heap.size + 1 + 1 + 1, 0, none⟩ (.int .u64 (n64 (x * 256 + (l[k]'(by omega)).toUInt64)))).setCell ⟨w.heap.size + 1 + 1 + 1, 1, none⟩ (.int .u64 (n64 (y * 256 + (l[8 + k]'(by omega)).toUInt64)))) (w.heap.size + 1 + 1 + 1) 31 #[.int .u64 (n64 (x * 256 + (l[k]'(by omega)).toUInt64)), .int .u64 (n64 (y * 256 + (l[8 + k]'(by omega)).toUInt64))]) := Lib.hid (hbA.set_ 1 _)
          have hgC := Lib.hid (Below.setCell (Below.setCell hg'.out (p := ⟨w.heap.size + 1 + 1 + 1, 0, none⟩) (by show w1.heap.size ≤ w.heap.size + 1 + 1 + 1; rw [hsz1.out]; exact Nat.le_refl _) (.int .u64 (n64 (x * 256 + (l[k]'(by omega)).toUInt64)))) (p := ⟨w.heap.size + 1 + 1 + 1, 1, none⟩) (by show w1.heap.size ≤ w.heap.size + 1 + 1 + 1; rw [hsz1.out]; exact Nat.le_refl _) (.int .u64 (n64 (y * 256 + (l[8 + k]'(by omega)).toUInt64))))
          clear hbA hBA c0 c1 f0 f1 q0'
          go_wp2
          have hwr : IntKind.i64.wrap (8 + (k : Int)) = 8 + (k : Int) := by rw [IntKind.wrap_i64]; omega
          have hnn : (0 : Int) ≤ 8 + (k : Int) := by omega
          have htn : (8 + (k : Int)).toNat = 8 + k := by omega
          go_region
          clear hwr
          go_wp2
          go_roundw
          case rel => exact ⟨k + 1, by omega, by go_num, Below.drew (Below.drew hgC.out), by rw [e1.out, e2.out]; exact hbC.out⟩
          case measure => simp [intOf]; omega
        · obtain rfl : k = 8 := by omega
          have hki : ¬ ((8 : Nat) : Int) < 8 := by omega
          have hb1r := hb1.out.below hg hb1.out.lt
          have hb2r := hb2.out.below hg hb2.out.lt
          have e1 : fold8 (l.take 8) = word8 l := rfl
          have e2 : fold8 ((l.drop 8).take 8) = word8 (l.drop 8) := rfl
          rw [e1, e2] at hb
          generalize word8 l = x at *
          generalize word8 (l.drop 8) = y at *
          have c0 := hb.cell 0
          have c1 := hb.cell 1
          have q0' : wr.cell? ⟨w.heap.size, 0, none⟩ = some (.string ⟨l.toArray⟩) := hB.cell 0
          have hg' := Lib.hid (hg1.out.trans hg)
          clear e1 e2
          obtain ⟨⟨f0, d0, f1, d1⟩, ⟨f2, d2, f3, d3⟩, ⟨f4, d4, f5, d5, f6, d6⟩, hb3, hb4⟩ := pair2 hb1r hb2r (by omega) (.string ⟨((l.drop 16).take (l.length - 16)).toArray⟩) (.int .i64 0) (.int .u64 (n64 x)) (.int .u64 (n64 y))
          have z0 := hb3.cell 0
          have z1 := hb3.cell 1
          have z2 := hb4.cell 0
          have z3 := hb4.cell 1
          have hbx := (hb.far (p := ⟨w.heap.size + 1, 0, none⟩) (by show w.heap.size + 1 + 1 + 1 ≠ w.heap.size + 1; omega) (.string ⟨((l.drop 16).take (l.length - 16)).toArray⟩)).far (p := ⟨w.heap.size + 1, 1, none⟩) (by show w.heap.size + 1 + 1 + 1 ≠ w.heap.size + 1; omega) (.int .i64 0)
          have x0 := hbx.cell 0
          have x1 := hbx.cell 1
          have hge := Lib.hid (below4 hg'.out (Nat.le_succ _) (show w.heap.size ≤ w.heap.size + 1 + 1 by omega) (.string ⟨((l.drop 16).take (l.length - 16)).toArray⟩) (.int .i64 0) (.int .u64 (n64 x)) (.int .u64 (n64 y)))
          have hl16i : (16 : Int) ≤ (l.length : Int) := by omega
          clear hb3 hb4 hbx hb hB hb1r hb2r hg
          go_wp2
          go_region
          all_goals
            go_wp2
            refine bodyPost_ret (v := getSV ((((l.drop 16).take (l.length - 16)), 0), (x, y))) (by simp [results, Try.results41, go_sem, z0, z1, z2, z3]) rfl ⟨by rw [hv.out], Below.drew hge.out⟩
  · have hci : ((s.2 : Int) == 0) = false := by simp; omega
    have hv : Hid (getSum s = (s, (0, 0))) := Lib.hid (if_neg he)
    have hbE1 := (Blk.new (w.alloc (.cells #[.string ⟨s.1.toArray⟩, .int .i64 (s.2 : Int)] 77)) 77 #[.string ⟨s.1.toArray⟩, .int .i64 (s.2 : Int)]).alloc (.cells #[.int .u64 0, .int .u64 0] 31)
    have hbE2 := Blk.new ((w.alloc (.cells #[.string ⟨s.1.toArray⟩, .int .i64 (s.2 : Int)] 77)).alloc (.cells #[.string ⟨s.1.toArray⟩, .int .i64 (s.2 : Int)] 77)) 31 #[.int .u64 0, .int .u64 0]
    rw [World.size_alloc] at hbE1
    rw [World.size_alloc, World.size_alloc] at hbE2
    have hge := Lib.hid ((((Gr.refl w).alloc (.cells #[.string ⟨s.1.toArray⟩, .int .i64 (s.2 : Int)] 77)).alloc (.cells #[.string ⟨s.1.toArray⟩, .int .i64 (s.2 : Int)] 77)).alloc (.cells #[.int .u64 0, .int .u64 0] 31))
    have z0 := hbE1.cell 0
    have z1 := hbE1.cell 1
    have z2 := hbE2.cell 0
    have z3 := hbE2.cell 1
    clear he hbE1 hbE2
    go_enter Try.func41, Try.ntmps41
    go_wp2
    refine bodyPost_ret (v := getSV (s, (0, 0))) (by simp [results, Try.results41, go_sem, z0, z1, z2, z3]) rfl ⟨by rw [hv.out], hge.out⟩
end Vint
end Go.Proofs.Ytcibngbgcnnjnaa
namespace Go.Proofs.Ytcibngbgcnnjnaa
open Go Go.RowKit W Bl Vint
namespace Sg
theorem rdInfo {a b : Value} : (Try.prog.info? 77).map (·.size) = some (#[a, b] : Array Value).size := by kernel_rfl
theorem sumInfo {a b : Value} : (Try.prog.info? 31).map (·.size) = some (#[a, b] : Array Value).size := by kernel_rfl
abbrev sigZ2 : Array Value := #[.int .i64 0, .slice none 0 0, .int .i64 0, .int .u32 0, .int .u64 0, .int .u64 0]
abbrev rdC (st : RS) : Array Value := #[.string ⟨st.1.toArray⟩, .int .i64 (st.2 : Int)]
theorem below_kb2 {w X Y : World} {b : Nat} (h : Below w.heap.size w X) (k : Kb b X Y) (hb : w.heap.size ≤ b) : Below w.heap.size w Y :=
  ⟨k.os.trans h.os, k.tape.trans h.tape, k.output.trans h.output, Nat.le_trans h.size k.size, fun i hi => (World.grownBy.block k i (Nat.lt_of_lt_of_le hi h.size) (fun e => by cases e; omega)).trans (h.block i hi)⟩
/-- While a signature is read, by the document. -/
structure RG (w : World) (st : RS) (cells : Array Value) (A0 : Option Addr) (c0 : Nat) (out : List Sign) (W : World) : Prop where
  br : Blk W w.heap.size 45 sigZ2
  rd : Blk W (w.heap.size + 1) 77 (rdC st)
  bs : Blk W (w.heap.size + 2) 45 cells
  os : OS 40 W (w.heap.size + 3) (.slice A0 out.length c0) out
  bel : Below w.heap.size w W
section
variable {w W W' : World} {st st' : RS} {cells : Array Value} {A0 : Option Addr} {c0 : Nat} {out : List Sign}
theorem RG.gr (h : RG w st cells A0 c0 out W) (k : Gr W W') : RG w st cells A0 c0 out W' := ⟨blk_more h.br k, blk_more h.rd k, blk_more h.bs k, OS.below h.os k, Below.trans h.bel (Below.mono k h.bel.size)⟩
theorem RG.put (h : RG w st cells A0 c0 out W) (n : Blk W' (w.heap.size + 1) 77 (rdC st')) (k : Kb (w.heap.size + 1) W W') : RG w st' cells A0 c0 out W' :=
  ⟨k.blk h.br (by omega), n, k.blk h.bs (by omega), os_kb h.os k (by omega), below_kb2 h.bel k (by omega)⟩
theorem RG.set (h : RG w st cells A0 c0 out W) (i : Nat) (u : Value) : RG w st (cells.setIfInBounds i u) A0 c0 out (W.setCell ⟨w.heap.size + 2, i, none⟩ u) :=
  ⟨h.br.far (p := ⟨w.heap.size + 2, i, none⟩) (by show w.heap.size ≠ w.heap.size + 2; omega) u, h.rd.far (p := ⟨w.heap.size + 2, i, none⟩) (by show w.heap.size + 1 ≠ w.heap.size + 2; omega) u, h.bs.set_ i u, os_kb h.os ((Kb.refl _ W).set i u) (by omega), below_kb2 h.bel ((Kb.refl _ W).set i u) (by omega)⟩
/-- Another block is written, far behind, that the slice doesn't own. -/
theorem RG.far {n B : Nat} (h : RG w st cells A0 c0 out W) (k : Kb n W W') (hB : B ≤ n) (hw : w.heap.size + 3 ≤ B) (hs : ∀ g, (Value.slice A0 out.length c0).ownBlock = some g → g < B) : RG w st cells A0 c0 out W' :=
  ⟨k.blk h.br (by omega), k.blk h.rd (by omega), k.blk h.bs (by omega), World.ownsRow.kept h.os k (by
    cases hv : (Value.slice A0 out.length c0).ownBlock with
    | none => exact .inl rfl
    | some g => exact .inr (fun e => by have := hs g hv; cases e; omega)), below_kb2 h.bel k (by omega)⟩
theorem RG.own (h : RG w st cells A0 c0 out W) : ∀ g, (Value.slice A0 out.length c0).ownBlock = some g → g < W.heap.size := fun g e => (World.ownsRow.lt h.os g e).2
theorem RG.lt (h : RG w st cells A0 c0 out W) : w.heap.size + 2 < W.heap.size := h.bs.lt
theorem RG.app {z : Int} {A9 : Option Addr} {c9 : Nat} {x : Sign} {n : Nat} {u : Value} (S : RG w st (sigC z u 0 zero) A0 c0 out W)
    (hb : Below (w.heap.size + 3) W W') (ho : OR 40 3 W' (w.heap.size + 3) (.slice A9 n c9) n (scs (out ++ [x]))) (hn : n = (out ++ [x]).length) :
    RG w st (sigC z (.slice A9 n c9) 0 zero) A9 c9 (out ++ [x]) (W'.setCell ⟨w.heap.size + 2, 1, none⟩ (.slice A9 n c9)) := by
  subst hn
  refine ⟨(S.br.below hb (by omega)).far (p := ⟨w.heap.size + 2, 1, none⟩) (by show w.heap.size ≠ w.heap.size + 2; omega) _, (S.rd.below hb (by omega)).far (p := ⟨w.heap.size + 2, 1, none⟩) (by show w.heap.size + 1 ≠ w.heap.size + 2; omega) _, (S.bs.below hb (by omega)).set_ 1 _, OR.setFar ho (by show w.heap.size + 2 < w.heap.size + 3; omega) _, ?_⟩
  exact below_kb2 (Below.trans S.bel (Below.mono hb (by omega))) ((Kb.refl _ W').set 1 _) (by omega)
end
theorem run_refGet (st : RS) (w : World) (hsz : st.1.length ≤ 1099511627776) : Calls Try.prog 40 #[rsV st, .int .u64 4294967295] w fun e w' => e = .returned (getRV (get st 4294967295)) ∧ Gr w w' :=
  refGet_any st 4294967295 w hsz
def OutGR (w : World) (R : Sig × Nat) : Ending → World → Prop := fun e w' => ∃ A c, e = .returned (.tuple #[sigV R.1 A c, .int .i64 (R.2 : Int)]) ∧ OS 40 w' w.heap.size (.slice A R.1.bs.length c) R.1.bs ∧ Gr w w'
theorem get_short' (s : RS) (m : Nat) : (Vint.get s m).1.1.length ≤ s.1.length := by
  unfold Vint.get
  split
  · split
    · simp
    · simp
  · exact Nat.le_refl _
theorem sum_short' (s : RS) : (getSum s).1.1.length ≤ s.1.length := by
  unfold getSum
  split
  · split
    · simp
    · simp
  · exact Nat.le_refl _
set_option maxRecDepth 100000 in
set_option maxHeartbeats 8000000 in
theorem refGet_sig (l : List UInt8) (w : World) (hs : l.length ≤ 1000000) :
    Calls Try.prog 21 #[str l] w (OutGR w (gets l)) := by
  obtain ⟨R, hR⟩ : ∃ R, gets l = R := ⟨_, rfl⟩
  rw [hR]
  unfold gets at hR
  have hi := Lib.hid (fun w => show Calls Try.prog 39 #[rsV (l, 0), .int .i64 64] w fun e w' => e = .returned (getIV (get (l, 0) 64)) ∧ Gr w w' from refInt_any (l, 0) 64 w (by omega) (by simp only []; omega))
  have hl1 := get_short' (l, 0) 64
  have hz64 := get_le (l, 0) 64
  generalize get (l, 0) 64 = p at *
  obtain ⟨st1, z⟩ := p
  simp only at hR hi hl1 hz64
  have hn := Lib.hid (fun w => show Calls Try.prog 39 #[rsV st1, .int .i64 4096] w fun e w' => e = .returned (getIV (get st1 4096)) ∧ Gr w w' from refInt_any st1 4096 w (by omega) (by omega))
  have hl2 := get_short' st1 4096
  have hn4 := get_le st1 4096
  generalize get st1 4096 = p at *
  obtain ⟨st2, n⟩ := p
  simp only at hR hn hl2 hn4
  obtain ⟨Q, hQ⟩ : ∃ Q, rowsF n st2 [] = Q := ⟨_, rfl⟩
  rw [hQ] at hR
  replace hR := Lib.hid hR
  replace hQ := Lib.hid hQ
  have hst1 : st1.1.length ≤ 1000000 := by omega
  have hst2 : st2.1.length ≤ 1000000 := by omega
  clear hl1 hl2
  have b1 := ((Blk.new w 45 sigZ2).alloc (.cells (rdC (l, 0)) 77)).alloc (.cells sigZ2 45)
  have b2 := (Blk.new (w.alloc (.cells sigZ2 45)) 77 (rdC (l, 0))).alloc (.cells sigZ2 45)
  have b3 := Blk.new ((w.alloc (.cells sigZ2 45)).alloc (.cells (rdC (l, 0)) 77)) 45 sigZ2
  rw [World.size_alloc] at b2 b3
  rw [World.size_alloc] at b3
  have S0 := Lib.hid (⟨b1, b2, b3, OS.nil_ _ _ _, (((Gr.refl w).alloc (.cells sigZ2 45)).alloc (.cells (rdC (l, 0)) 77)).alloc (.cells sigZ2 45)⟩ : RG w (l, 0) sigZ2 none 0 [] (((w.alloc (.cells sigZ2 45)).alloc (.cells (rdC (l, 0)) 77)).alloc (.cells sigZ2 45)))
  clear b1 b2 b3
  go_enter Try.func21, Try.ntmps21
  go_wp2_with fail
  go_at_call 39
  refine (hi.out _).mono ?_
  rintro e w1 ⟨rfl, g1⟩
  have S1 := Lib.hid ((S0.out.gr g1).gr ((Gr.refl w1).alloc (.cells (rdC st1) 77)))
  clear S0 g1 hi
  go_wp2_with (first
          | ((with_reducible refine wpList_isStore 77 (.tmp 4) (.tmp 26) rfl ?_); refine wpList_store_blk rfl 77 (.tmp 4) (.tmp 26) rfl (w.heap.size + 1) (rdC st1) rfl rfl 77 _ S1.out.rd rdInfo rfl (by simp [Value.oneCell']) ?_; intro w2 nn kk zz; have S2 := Lib.hid (S1.out.put nn kk); have f0 := S2.out.bs.frozen 0; have y0 := S2.out.bs.cell 0; have S3 := Lib.hid (S2.out.set 0 (.int .i64 (z : Int))); have d0 := S3.out.rd.cell 0; have d1 := S3.out.rd.cell 1; clear nn kk zz))
  go_at_call 39
  refine (hn.out _).mono ?_
  rintro e w4 ⟨rfl, g4⟩
  have S4 := Lib.hid (S3.out.gr g4)
  clear S2 S3 f0 y0 d0 d1 g4 hn
  go_wp2_with (first
          | ((with_reducible refine wpList_isStore 77 (.tmp 4) (.tmp 32) rfl ?_); refine wpList_store_blk rfl 77 (.tmp 4) (.tmp 32) rfl (w.heap.size + 1) (rdC st2) rfl rfl 77 _ S4.out.rd rdInfo rfl (by simp [Value.oneCell']) ?_; intro w5 nn kk zz; have S5 := Lib.hid (S4.out.put nn kk); clear nn kk zz))
  clear S4
  go_loopw [7, 10, 11, 12, 13] (fun _ i _ _ _ wr => ∃ k : Nat, k ≤ n ∧ i = .int .i64 (k : Int) ∧ ∃ st out A0 c0, out.length = k ∧ st.1.length ≤ 1000000 ∧ rowsF (n - k) st out = Q ∧ RG w st (sigC (z : Int) (.slice A0 out.length c0) 0 zero) A0 c0 out wr) (fun _ i _ _ _ _ => n - (intOf i).toNat)
  case atStart => exact ⟨0, by omega, rfl, st2, [], none, 0, rfl, hst2, hQ.out, S5.out⟩
  case round =>
    clear S5 hQ
    obtain ⟨k, hk, rfl, st, out, A0, c0, hok, hsl, hQ, S⟩ := hrel
    have d0 := S.rd.cell 0
    have d1 := S.rd.cell 1
    have hS := Lib.hid S
    have hlt := S.lt
    by_cases h : k < n
    · obtain ⟨m, hm⟩ : ∃ m, n - k = m + 1 := ⟨n - k - 1, by omega⟩
      rw [hm, rowsF] at hQ
      by_cases he : st.2 = 0
      · rw [if_neg (by simpa using he)] at hQ
        have hei : (((st.2 : Nat) : Int) == 0) = true := by rw [he]; rfl
        have hbe := Lib.hid he
        clear he
        unfold one at hQ
        have hg1 := Lib.hid (fun w => run_refGet st w (by omega))
        have hs1 := get_short' st 4294967295
        generalize get st 4294967295 = p at *
        obtain ⟨st3, v⟩ := p
        simp only at hQ hg1 hs1
        have hg2 := Lib.hid (fun w => refSum2_any st3 w (by omega))
        have hs2 := sum_short' st3
        generalize getSum st3 = p at *
        obtain ⟨st4, x, y⟩ := p
        simp only at hQ hg2 hs2
        replace hQ := Lib.hid hQ
        replace hok := Lib.hid hok
        have hob : out.length ≤ 4096 := by have := hok.out; omega
        have SA := Lib.hid (S.gr ((Gr.refl wr).alloc (.cells #[.int .u32 0, .int .u64 0, .int .u64 0] 40)))
        have da0 := SA.out.rd.cell 0
        have da1 := SA.out.rd.cell 1
        have TA := Lib.hid (Blk.new wr 40 #[.int .u32 0, .int .u64 0, .int .u64 0])
        have hown := S.own
        clear S
        go_wp2_with fail
        go_at_call 40
        refine (hg1.out _).mono ?_
        rintro e w6 ⟨rfl, g6⟩
        have S6 := Lib.hid (SA.out.gr g6)
        have T6 := Lib.hid (blk_more TA.out g6)
        have hz6 := Below.size g6
        rw [World.size_alloc] at hz6
        clear SA TA da0 da1 d0 d1 g6 hg1 hS
        go_wp2_with (first
          | ((with_reducible refine wpList_isStore 77 (.tmp 4) (.tmp 48) rfl ?_); refine wpList_store_blk rfl 77 (.tmp 4) (.tmp 48) rfl (w.heap.size + 1) (rdC st3) rfl rfl 77 _ S6.out.rd rdInfo rfl (by simp [Value.oneCell']) ?_; intro w7 nn kk zz; have S7 := Lib.hid (S6.out.put nn kk); have T7 := kk.blk T6.out (by omega); have t0 := T7.cell 0; have tf0 := T7.frozen 0; have T8 := Lib.hid (T7.set_ 0 (.int .u32 (n32 (UInt32.ofNat v)))); have hzk := kk.size; have S8 := Lib.hid (S7.out.far ((Kb.refl wr.heap.size w7).set 0 (.int .u32 (n32 (UInt32.ofNat v)))) (Nat.le_refl _) (by omega) hown); have d0 := S8.out.rd.cell 0; have d1 := S8.out.rd.cell 1; clear nn kk zz))
        go_at_call 41
        refine (hg2.out _).mono ?_
        rintro e w9 ⟨rfl, g9⟩
        have S9 := Lib.hid (S8.out.gr g9)
        have T9 := Lib.hid (blk_more T8.out g9)
        clear S6 T6 S7 T7 t0 tf0 T8 S8 d0 d1 g9 hg2
        have gA := (Gr.refl w9).alloc (.cells (rdC st4) 77)
        have gB := gA.alloc (.cells #[.int .u64 (n64 x), .int .u64 (n64 y)] 31)
        have S10 := Lib.hid (S9.out.gr gB)
        have T10 := Lib.hid (blk_more T9.out gB)
        have U10 := Blk.new (w9.alloc (.cells (rdC st4) 77)) 31 #[.int .u64 (n64 x), .int .u64 (n64 y)]
        rw [World.size_alloc] at U10
        replace U10 := Lib.hid U10
        have hz9 := T9.out.lt
        clear S9 T9 gA gB
        go_wp2_with (first
          | ((with_reducible refine wpList_isStore 77 (.tmp 4) (.tmp 58) rfl ?_); refine wpList_store_blk rfl 77 (.tmp 4) (.tmp 58) rfl (w.heap.size + 1) (rdC st4) rfl rfl 77 _ S10.out.rd rdInfo rfl (by simp [Value.oneCell']) ?_; intro w11 nn kk zz; have S11 := Lib.hid (S10.out.put nn kk); have U11 := kk.blk U10.out (by omega); have u0 := U11.cell 0; have u1 := U11.cell 1; have T11 := kk.blk T10.out (by omega); have t1 := T11.cell 1; have t2 := T11.cell 2; have tf1 := T11.frozen 1; have tf2 := T11.frozen 2; have T12 := Lib.hid ((T11.set_ 1 (.int .u64 (n64 x))).set_ 2 (.int .u64 (n64 y))); have v0 := T12.out.cell 0; have v1 := T12.out.cell 1; have v2 := T12.out.cell 2; have hzk := kk.size; have S12 := Lib.hid (S11.out.far (((Kb.refl wr.heap.size w11).set 1 (.int .u64 (n64 x))).set 2 (.int .u64 (n64 y))) (Nat.le_refl _) (by omega) hown); have s1 := S12.out.bs.cell 1; have S13 := Lib.hid (S12.out.gr ((Gr.refl _).alloc (.cells #[.int .u32 (n32 (UInt32.ofNat v)), .int .u64 (n64 x), .int .u64 (n64 y)] 40))); have N13 := SR.new1 ((w11.setCell ⟨wr.heap.size, 1, none⟩ (.int .u64 (n64 x))).setCell ⟨wr.heap.size, 2, none⟩ (.int .u64 (n64 y))) 40 (UInt32.ofNat v, x, y); rw [World.size_setCell, World.size_setCell] at N13; have N13 := Lib.hid N13; clear U11 T11; clear nn kk zz)
          | ((with_reducible refine wpList_isApp (.tmp 62) (.tmp 64) 43 rfl ?_); refine wpList_append_rowsN (v := .slice A0 out.length c0) rfl (.tmp 62) (.tmp 64) 43 rfl Try.underlying43 refSignRow rfl (by exact S13.out.os) (w11.heap.size + 1) _ 1 1 (scs [(UInt32.ofNat v, x, y)]) rfl (by exact N13.out) (scs_one_cell _) (by unfold maxLen; omega) (by omega) (by have := S13.out.bs.lt; omega) (scs (out ++ [(UInt32.ofNat v, x, y)])) (scs_append _ _) (out.length + 1) rfl ?_; intro A9 c9 w14 o9 b9; have S14 := Lib.hid (S13.out.app (x := (UInt32.ofNat v, x, y)) b9 o9 (by simp)); have m9 := S13.out.bs.below b9 (by omega); have f9 := m9.frozen 1; have y9 := m9.cell 1; clear S13 N13 o9 b9 m9))
        go_roundw
        case rel => exact ⟨k + 1, by omega, by go_num, st4, out ++ [(UInt32.ofNat v, x, y)], A9, c9, by rw [List.length_append, hok.out]; rfl, by omega, by rw [show n - (k + 1) = m by omega]; exact hQ.out, by rw [List.length_append]; exact S14.out⟩
        case measure => simp [intOf]; omega
      · rw [if_pos he] at hQ
        subst hQ
        have hei : (((st.2 : Nat) : Int) == 0) = false := by simp [he]
        clear he hok hm hk
        have hRf := hR.out
        unfold fin2 at hRf
        simp only at hRf
        have hg3 := Lib.hid (fun w => show Calls Try.prog 39 #[rsV st, .int .i64 63] w fun e w' => e = .returned (getIV (get st 63)) ∧ Gr w w' from refInt_any st 63 w (by omega) (by omega))
        have hs3 := get_short' st 63
        have hl3 := get_le st 63
        generalize get st 63 = p at *
        obtain ⟨st3, t⟩ := p
        simp only at hRf hg3 hs3 hl3
        replace hRf := Lib.hid hRf
        clear hR S
        go_wp2_with fail
        go_at_call 39
        refine (hg3.out _).mono ?_
        rintro e w6 ⟨rfl, g6⟩
        have S6 := Lib.hid ((hS.out.gr g6).gr ((Gr.refl w6).alloc (.cells (rdC st3) 77)))
        clear hS g6 hg3 d0 d1
        by_cases ht : 0 < t
        · have ht' : (0 : Int) < (t : Int) := by omega
          have hRg := hRf.out
          unfold lastR at hRg
          rw [if_pos ht] at hRg
          unfold one at hRg
          have hg4 := Lib.hid (fun w => run_refGet st3 w (by omega))
          have hs4 := get_short' st3 4294967295
          generalize get st3 4294967295 = p at *
          obtain ⟨st4, v⟩ := p
          simp only at hRg hg4 hs4
          have hg5 := Lib.hid (fun w => refSum2_any st4 w (by omega))
          generalize getSum st4 = p at *
          obtain ⟨st5, x, y⟩ := p
          simp only at hRg hg5
          replace hRg := Lib.hid hRg
          clear hRf
          go_wp2_with (first
                    | ((with_reducible refine wpList_isStore 77 (.tmp 4) (.tmp 72) rfl ?_); refine wpList_store_blk rfl 77 (.tmp 4) (.tmp 72) rfl (w.heap.size + 1) (rdC st3) rfl rfl 77 _ S6.out.rd rdInfo rfl (by simp [Value.oneCell']) ?_; intro w7 nn kk zz; have S7 := Lib.hid (S6.out.put nn kk); have f2 := S7.out.bs.frozen 2; have y2 := S7.out.bs.cell 2; have S8 := Lib.hid (S7.out.set 2 (.int .i64 (t : Int))); have u2 := S8.out.bs.cell 2; have d0 := S8.out.rd.cell 0; have d1 := S8.out.rd.cell 1; clear nn kk zz))
          go_at_call 40
          refine (hg4.out _).mono ?_
          rintro e w9 ⟨rfl, g9⟩
          have S9 := Lib.hid (S8.out.gr g9)
          clear S6 S7 S8 f2 y2 u2 d0 d1 g9 hg4
          go_wp2_with (first
                    | ((with_reducible refine wpList_isStore 77 (.tmp 4) (.tmp 81) rfl ?_); refine wpList_store_blk rfl 77 (.tmp 4) (.tmp 81) rfl (w.heap.size + 1) (rdC st4) rfl rfl 77 _ S9.out.rd rdInfo rfl (by simp [Value.oneCell']) ?_; intro w10 nn kk zz; have S10 := Lib.hid (S9.out.put nn kk); have f3 := S10.out.bs.frozen 3; have y3 := S10.out.bs.cell 3; have S11 := Lib.hid (S10.out.set 3 (.int .u32 (n32 (UInt32.ofNat v)))); have d0 := S11.out.rd.cell 0; have d1 := S11.out.rd.cell 1; clear nn kk zz))
          go_at_call 41
          refine (hg5.out _).mono ?_
          rintro e w12 ⟨rfl, g12⟩
          have S12 := Lib.hid (S11.out.gr g12)
          have gA := (Gr.refl w12).alloc (.cells (rdC st5) 77)
          have gB := gA.alloc (.cells #[.int .u64 (n64 x), .int .u64 (n64 y)] 31)
          have S13 := Lib.hid (S12.out.gr gB)
          have U13 := Blk.new (w12.alloc (.cells (rdC st5) 77)) 31 #[.int .u64 (n64 x), .int .u64 (n64 y)]
          rw [World.size_alloc] at U13
          replace U13 := Lib.hid U13
          have hz12 := S12.out.lt
          clear S9 S10 S11 S12 f3 y3 d0 d1 gA gB g12 hg5
          have hen := Lib.hid (fun w => refEnd_any st5 w)
          have hRg := hRg.out
          try unfold fin at hRg
          obtain ⟨q, hq⟩ : ∃ q, ended st5 = q := ⟨_, rfl⟩
          simp only [hq] at hRg
          rw [hq] at hen
          clear hq
          by_cases hq0 : q = 0
          · rw [if_neg (by simpa using hq0)] at hRg
            subst hq0
            obtain ⟨b, hb⟩ : ∃ b, right ⟨(z : Int), out, (t : Int), (UInt32.ofNat v, x, y)⟩ = b := ⟨_, rfl⟩
            have hro := Lib.hid (fun w => refRight_any ⟨(z : Int), out, (t : Int), (UInt32.ofNat v, x, y)⟩ A0 c0 w)
            rw [hb] at hRg hro
            clear hb
            replace hRg := Lib.hid hRg
            go_wp2_with (first
              | ((with_reducible refine wpList_isStore 77 (.tmp 4) (.tmp 92) rfl ?_); refine wpList_store_blk rfl 77 (.tmp 4) (.tmp 92) rfl (w.heap.size + 1) (rdC st5) rfl rfl 77 _ S13.out.rd rdInfo rfl (by simp [Value.oneCell']) ?_; intro w14 nn kk zz; have S14 := Lib.hid (S13.out.put nn kk); have U14 := kk.blk U13.out (by omega); have u0 := U14.cell 0; have u1 := U14.cell 1; have f4 := S14.out.bs.frozen 4; have f5 := S14.out.bs.frozen 5; have y4 := S14.out.bs.cell 4; have y5 := S14.out.bs.cell 5; have S15 := Lib.hid ((S14.out.set 4 (.int .u64 (n64 x))).set 5 (.int .u64 (n64 y))); have d0 := S15.out.rd.cell 0; have d1 := S15.out.rd.cell 1; clear U14; clear nn kk zz))
            go_at_call 42
            refine (hen.out _).mono ?_
            rintro e w8 ⟨rfl, g8⟩
            have E8 := Lib.hid (S15.out.gr g8)
            clear hen g8 S15 d0 d1 S13 S14 U13 u0 u1 f4 f5 y4 y5
            go_wp2_with (first
              | ((with_reducible refine wpList_isLoad 45 (.tmp 5) rfl ?_); refine wpList_load_row rfl 45 (.tmp 5) rfl (w.heap.size + 2) rfl 45 _ (0, 0) _ E8.out.bs Try.underlying45 rfl (refSigInfo _ _ _ _ _ _) ?_))
            go_at_call 25
            refine (hro.out _).mono ?_
            rintro e w9' ⟨rfl, g9⟩
            have E9 := Lib.hid (E8.out.gr g9)
            clear E8 g9 hro
            cases b
            · have hRe := hRg.out
              rw [if_neg (by simp)] at hRe
              subst hRe
              clear hRg
              go_wp2_with (first
                | ((with_reducible refine wpList_isLoad 45 (.tmp 5) rfl ?_); refine wpList_load_row rfl 45 (.tmp 5) rfl (w.heap.size + 2) rfl 45 _ (0, 0) _ E9.out.bs Try.underlying45 rfl (refSigInfo _ _ _ _ _ _) ?_)
                | ((with_reducible refine wpList_isStore 45 (.tmp 2) (.tmp 105) rfl ?_); refine wpList_store_blk rfl 45 (.tmp 2) (.tmp 105) rfl w.heap.size sigZ2 rfl rfl 45 sigZ2 E9.out.br (refSigInfo _ _ _ _ _ _) rfl (by simp [Value.oneCell']) ?_; intro w9 n9 k9 z9; have x0 := n9.cell 0; have x1 := n9.cell 1; have x2 := n9.cell 2; have x3 := n9.cell 3; have x4 := n9.cell 4; have x5 := n9.cell 5; have B9 := Lib.hid (below_kb2 E9.out.bel k9 (Nat.le_refl _)); have O9 := Lib.hid (os_kb E9.out.os k9 (by omega)); clear n9 k9 z9))
              exact bodyPost_ret (v := .tuple #[.agg sigZ2, .int .i64 (3 : Int)]) (by simp [results, Try.results21, go_sem, x0, x1, x2, x3, x4, x5]) rfl ⟨none, 0, rfl, OS.nil_ _ _ _, B9.out⟩
            · have hRe := hRg.out
              rw [if_pos rfl] at hRe
              subst hRe
              clear hRg
              go_wp2_with (first
                | ((with_reducible refine wpList_isLoad 45 (.tmp 5) rfl ?_); refine wpList_load_row rfl 45 (.tmp 5) rfl (w.heap.size + 2) rfl 45 _ (0, 0) _ E9.out.bs Try.underlying45 rfl (refSigInfo _ _ _ _ _ _) ?_)
                | ((with_reducible refine wpList_isStore 45 (.tmp 2) (.tmp 106) rfl ?_); refine wpList_store_blk rfl 45 (.tmp 2) (.tmp 106) rfl w.heap.size (sigC (z : Int) (.slice A0 out.length c0) (t : Int) (UInt32.ofNat v, x, y)) rfl rfl 45 sigZ2 E9.out.br (refSigInfo _ _ _ _ _ _) rfl (by simp [Value.oneCell']) ?_; intro w9 n9 k9 z9; have x0 := n9.cell 0; have x1 := n9.cell 1; have x2 := n9.cell 2; have x3 := n9.cell 3; have x4 := n9.cell 4; have x5 := n9.cell 5; have B9 := Lib.hid (below_kb2 E9.out.bel k9 (Nat.le_refl _)); have O9 := Lib.hid (os_kb E9.out.os k9 (by omega)); clear n9 k9 z9))
              exact bodyPost_ret (v := .tuple #[.agg (sigC (z : Int) (.slice A0 out.length c0) (t : Int) (UInt32.ofNat v, x, y)), .int .i64 (0 : Int)]) (by simp [results, Try.results21, go_sem, x0, x1, x2, x3, x4, x5]) rfl ⟨A0, c0, rfl, OR.base_le O9.out (by omega), B9.out⟩
          · rw [if_pos hq0] at hRg
            subst hRg
            have hqi : ((q : Int) == 0) = false := by simp [hq0]
            have hqb : ¬ (q : Int) = 0 := by omega
            go_wp2_with (first
              | ((with_reducible refine wpList_isStore 77 (.tmp 4) (.tmp 92) rfl ?_); refine wpList_store_blk rfl 77 (.tmp 4) (.tmp 92) rfl (w.heap.size + 1) (rdC st5) rfl rfl 77 _ S13.out.rd rdInfo rfl (by simp [Value.oneCell']) ?_; intro w14 nn kk zz; have S14 := Lib.hid (S13.out.put nn kk); have U14 := kk.blk U13.out (by omega); have u0 := U14.cell 0; have u1 := U14.cell 1; have f4 := S14.out.bs.frozen 4; have f5 := S14.out.bs.frozen 5; have y4 := S14.out.bs.cell 4; have y5 := S14.out.bs.cell 5; have S15 := Lib.hid ((S14.out.set 4 (.int .u64 (n64 x))).set 5 (.int .u64 (n64 y))); have d0 := S15.out.rd.cell 0; have d1 := S15.out.rd.cell 1; clear U14; clear nn kk zz))
            go_at_call 42
            refine (hen.out _).mono ?_
            rintro e w8 ⟨rfl, g8⟩
            have E8 := Lib.hid (S15.out.gr g8)
            clear g8 S15 d0 d1 S13 S14 U13 u0 u1 f4 f5 y4 y5
            have d0 := E8.out.rd.cell 0
            have d1 := E8.out.rd.cell 1
            go_wp2_with fail
            go_at_call 42
            refine (hen.out _).mono ?_
            rintro e w9' ⟨rfl, g9⟩
            have E9 := Lib.hid (E8.out.gr g9)
            clear g9 E8 d0 d1 hen
            go_wp2_with (first
              | ((with_reducible refine wpList_isLoad 45 (.tmp 5) rfl ?_); refine wpList_load_row rfl 45 (.tmp 5) rfl (w.heap.size + 2) rfl 45 _ (0, 0) _ E9.out.bs Try.underlying45 rfl (refSigInfo _ _ _ _ _ _) ?_)
              | ((with_reducible refine wpList_isStore 45 (.tmp 2) (.tmp 99) rfl ?_); refine wpList_store_blk rfl 45 (.tmp 2) (.tmp 99) rfl w.heap.size sigZ2 rfl rfl 45 sigZ2 E9.out.br (refSigInfo _ _ _ _ _ _) rfl (by simp [Value.oneCell']) ?_; intro w9 n9 k9 z9; have x0 := n9.cell 0; have x1 := n9.cell 1; have x2 := n9.cell 2; have x3 := n9.cell 3; have x4 := n9.cell 4; have x5 := n9.cell 5; have B9 := Lib.hid (below_kb2 E9.out.bel k9 (Nat.le_refl _)); have O9 := Lib.hid (os_kb E9.out.os k9 (by omega)); clear n9 k9 z9))
            exact bodyPost_ret (v := .tuple #[.agg sigZ2, .int .i64 ((q : Nat) : Int)]) (by simp [results, Try.results21, go_sem, x0, x1, x2, x3, x4, x5]) rfl ⟨none, 0, rfl, OS.nil_ _ _ _, B9.out⟩
        · obtain rfl : t = 0 := by omega
          have hRg := hRf.out
          unfold lastR at hRg
          rw [if_neg ht] at hRg
          unfold fin at hRg
          rw [show ((0 : Nat) : Int) = 0 from rfl] at hRg
          replace hRg := Lib.hid hRg
          clear hRf ht
          have hen := Lib.hid (fun w => refEnd_any st3 w)
          have hRg := hRg.out
          try unfold fin at hRg
          obtain ⟨q, hq⟩ : ∃ q, ended st3 = q := ⟨_, rfl⟩
          simp only [hq] at hRg
          rw [hq] at hen
          clear hq
          by_cases hq0 : q = 0
          · rw [if_neg (by simpa using hq0)] at hRg
            subst hq0
            obtain ⟨b, hb⟩ : ∃ b, right ⟨(z : Int), out, (0 : Int), zero⟩ = b := ⟨_, rfl⟩
            have hro := Lib.hid (fun w => refRight_any ⟨(z : Int), out, (0 : Int), zero⟩ A0 c0 w)
            rw [hb] at hRg hro
            clear hb
            replace hRg := Lib.hid hRg
            go_wp2_with (first
              | ((with_reducible refine wpList_isStore 77 (.tmp 4) (.tmp 72) rfl ?_); refine wpList_store_blk rfl 77 (.tmp 4) (.tmp 72) rfl (w.heap.size + 1) (rdC st3) rfl rfl 77 _ S6.out.rd rdInfo rfl (by simp [Value.oneCell']) ?_; intro w7 nn kk zz; have S7 := Lib.hid (S6.out.put nn kk); have f2 := S7.out.bs.frozen 2; have y2 := S7.out.bs.cell 2; have S8 := Lib.hid (S7.out.set 2 (.int .i64 0)); have u2 := S8.out.bs.cell 2; have d0 := S8.out.rd.cell 0; have d1 := S8.out.rd.cell 1; clear nn kk zz))
            go_at_call 42
            refine (hen.out _).mono ?_
            rintro e w8 ⟨rfl, g8⟩
            have E8 := Lib.hid (S8.out.gr g8)
            clear hen g8 S8 d0 d1 S6 S7 f2 y2 u2
            go_wp2_with (first
              | ((with_reducible refine wpList_isLoad 45 (.tmp 5) rfl ?_); refine wpList_load_row rfl 45 (.tmp 5) rfl (w.heap.size + 2) rfl 45 _ (0, 0) _ E8.out.bs Try.underlying45 rfl (refSigInfo _ _ _ _ _ _) ?_))
            go_at_call 25
            refine (hro.out _).mono ?_
            rintro e w9' ⟨rfl, g9⟩
            have E9 := Lib.hid (E8.out.gr g9)
            clear E8 g9 hro
            cases b
            · have hRe := hRg.out
              rw [if_neg (by simp)] at hRe
              subst hRe
              clear hRg
              go_wp2_with (first
                | ((with_reducible refine wpList_isLoad 45 (.tmp 5) rfl ?_); refine wpList_load_row rfl 45 (.tmp 5) rfl (w.heap.size + 2) rfl 45 _ (0, 0) _ E9.out.bs Try.underlying45 rfl (refSigInfo _ _ _ _ _ _) ?_)
                | ((with_reducible refine wpList_isStore 45 (.tmp 2) (.tmp 105) rfl ?_); refine wpList_store_blk rfl 45 (.tmp 2) (.tmp 105) rfl w.heap.size sigZ2 rfl rfl 45 sigZ2 E9.out.br (refSigInfo _ _ _ _ _ _) rfl (by simp [Value.oneCell']) ?_; intro w9 n9 k9 z9; have x0 := n9.cell 0; have x1 := n9.cell 1; have x2 := n9.cell 2; have x3 := n9.cell 3; have x4 := n9.cell 4; have x5 := n9.cell 5; have B9 := Lib.hid (below_kb2 E9.out.bel k9 (Nat.le_refl _)); have O9 := Lib.hid (os_kb E9.out.os k9 (by omega)); clear n9 k9 z9))
              exact bodyPost_ret (v := .tuple #[.agg sigZ2, .int .i64 (3 : Int)]) (by simp [results, Try.results21, go_sem, x0, x1, x2, x3, x4, x5]) rfl ⟨none, 0, rfl, OS.nil_ _ _ _, B9.out⟩
            · have hRe := hRg.out
              rw [if_pos rfl] at hRe
              subst hRe
              clear hRg
              go_wp2_with (first
                | ((with_reducible refine wpList_isLoad 45 (.tmp 5) rfl ?_); refine wpList_load_row rfl 45 (.tmp 5) rfl (w.heap.size + 2) rfl 45 _ (0, 0) _ E9.out.bs Try.underlying45 rfl (refSigInfo _ _ _ _ _ _) ?_)
                | ((with_reducible refine wpList_isStore 45 (.tmp 2) (.tmp 106) rfl ?_); refine wpList_store_blk rfl 45 (.tmp 2) (.tmp 106) rfl w.heap.size (sigC (z : Int) (.slice A0 out.length c0) (0 : Int) zero) rfl rfl 45 sigZ2 E9.out.br (refSigInfo _ _ _ _ _ _) rfl (by simp [Value.oneCell']) ?_; intro w9 n9 k9 z9; have x0 := n9.cell 0; have x1 := n9.cell 1; have x2 := n9.cell 2; have x3 := n9.cell 3; have x4 := n9.cell 4; have x5 := n9.cell 5; have B9 := Lib.hid (below_kb2 E9.out.bel k9 (Nat.le_refl _)); have O9 := Lib.hid (os_kb E9.out.os k9 (by omega)); clear n9 k9 z9))
              exact bodyPost_ret (v := .tuple #[.agg (sigC (z : Int) (.slice A0 out.length c0) (0 : Int) zero), .int .i64 (0 : Int)]) (by simp [results, Try.results21, go_sem, x0, x1, x2, x3, x4, x5]) rfl ⟨A0, c0, rfl, OR.base_le O9.out (by omega), B9.out⟩
          · rw [if_pos hq0] at hRg
            subst hRg
            have hqi : ((q : Int) == 0) = false := by simp [hq0]
            have hqb : ¬ (q : Int) = 0 := by omega
            go_wp2_with (first
              | ((with_reducible refine wpList_isStore 77 (.tmp 4) (.tmp 72) rfl ?_); refine wpList_store_blk rfl 77 (.tmp 4) (.tmp 72) rfl (w.heap.size + 1) (rdC st3) rfl rfl 77 _ S6.out.rd rdInfo rfl (by simp [Value.oneCell']) ?_; intro w7 nn kk zz; have S7 := Lib.hid (S6.out.put nn kk); have f2 := S7.out.bs.frozen 2; have y2 := S7.out.bs.cell 2; have S8 := Lib.hid (S7.out.set 2 (.int .i64 0)); have u2 := S8.out.bs.cell 2; have d0 := S8.out.rd.cell 0; have d1 := S8.out.rd.cell 1; clear nn kk zz))
            go_at_call 42
            refine (hen.out _).mono ?_
            rintro e w8 ⟨rfl, g8⟩
            have E8 := Lib.hid (S8.out.gr g8)
            clear g8 S8 d0 d1 S6 S7 f2 y2 u2
            have d0 := E8.out.rd.cell 0
            have d1 := E8.out.rd.cell 1
            go_wp2_with fail
            go_at_call 42
            refine (hen.out _).mono ?_
            rintro e w9' ⟨rfl, g9⟩
            have E9 := Lib.hid (E8.out.gr g9)
            clear g9 E8 d0 d1 hen
            go_wp2_with (first
              | ((with_reducible refine wpList_isLoad 45 (.tmp 5) rfl ?_); refine wpList_load_row rfl 45 (.tmp 5) rfl (w.heap.size + 2) rfl 45 _ (0, 0) _ E9.out.bs Try.underlying45 rfl (refSigInfo _ _ _ _ _ _) ?_)
              | ((with_reducible refine wpList_isStore 45 (.tmp 2) (.tmp 99) rfl ?_); refine wpList_store_blk rfl 45 (.tmp 2) (.tmp 99) rfl w.heap.size sigZ2 rfl rfl 45 sigZ2 E9.out.br (refSigInfo _ _ _ _ _ _) rfl (by simp [Value.oneCell']) ?_; intro w9 n9 k9 z9; have x0 := n9.cell 0; have x1 := n9.cell 1; have x2 := n9.cell 2; have x3 := n9.cell 3; have x4 := n9.cell 4; have x5 := n9.cell 5; have B9 := Lib.hid (below_kb2 E9.out.bel k9 (Nat.le_refl _)); have O9 := Lib.hid (os_kb E9.out.os k9 (by omega)); clear n9 k9 z9))
            exact bodyPost_ret (v := .tuple #[.agg sigZ2, .int .i64 ((q : Nat) : Int)]) (by simp [results, Try.results21, go_sem, x0, x1, x2, x3, x4, x5]) rfl ⟨none, 0, rfl, OS.nil_ _ _ _, B9.out⟩
    · obtain rfl : k = n := by omega
      rw [Nat.sub_self, rowsF] at hQ
      subst hQ
      clear hok hk h
      have hRf := hR.out
      unfold fin2 at hRf
      simp only at hRf
      have hg3 := Lib.hid (fun w => show Calls Try.prog 39 #[rsV st, .int .i64 63] w fun e w' => e = .returned (getIV (get st 63)) ∧ Gr w w' from refInt_any st 63 w (by omega) (by omega))
      have hs3 := get_short' st 63
      have hl3 := get_le st 63
      generalize get st 63 = p at *
      obtain ⟨st3, t⟩ := p
      simp only at hRf hg3 hs3 hl3
      replace hRf := Lib.hid hRf
      clear hR S
      go_wp2_with fail
      go_at_call 39
      refine (hg3.out _).mono ?_
      rintro e w6 ⟨rfl, g6⟩
      have S6 := Lib.hid ((hS.out.gr g6).gr ((Gr.refl w6).alloc (.cells (rdC st3) 77)))
      clear hS g6 hg3 d0 d1
      by_cases ht : 0 < t
      · have ht' : (0 : Int) < (t : Int) := by omega
        have hRg := hRf.out
        unfold lastR at hRg
        rw [if_pos ht] at hRg
        unfold one at hRg
        have hg4 := Lib.hid (fun w => run_refGet st3 w (by omega))
        have hs4 := get_short' st3 4294967295
        generalize get st3 4294967295 = p at *
        obtain ⟨st4, v⟩ := p
        simp only at hRg hg4 hs4
        have hg5 := Lib.hid (fun w => refSum2_any st4 w (by omega))
        generalize getSum st4 = p at *
        obtain ⟨st5, x, y⟩ := p
        simp only at hRg hg5
        replace hRg := Lib.hid hRg
        clear hRf
        go_wp2_with (first
                  | ((with_reducible refine wpList_isStore 77 (.tmp 4) (.tmp 72) rfl ?_); refine wpList_store_blk rfl 77 (.tmp 4) (.tmp 72) rfl (w.heap.size + 1) (rdC st3) rfl rfl 77 _ S6.out.rd rdInfo rfl (by simp [Value.oneCell']) ?_; intro w7 nn kk zz; have S7 := Lib.hid (S6.out.put nn kk); have f2 := S7.out.bs.frozen 2; have y2 := S7.out.bs.cell 2; have S8 := Lib.hid (S7.out.set 2 (.int .i64 (t : Int))); have u2 := S8.out.bs.cell 2; have d0 := S8.out.rd.cell 0; have d1 := S8.out.rd.cell 1; clear nn kk zz))
        go_at_call 40
        refine (hg4.out _).mono ?_
        rintro e w9 ⟨rfl, g9⟩
        have S9 := Lib.hid (S8.out.gr g9)
        clear S6 S7 S8 f2 y2 u2 d0 d1 g9 hg4
        go_wp2_with (first
                  | ((with_reducible refine wpList_isStore 77 (.tmp 4) (.tmp 81) rfl ?_); refine wpList_store_blk rfl 77 (.tmp 4) (.tmp 81) rfl (w.heap.size + 1) (rdC st4) rfl rfl 77 _ S9.out.rd rdInfo rfl (by simp [Value.oneCell']) ?_; intro w10 nn kk zz; have S10 := Lib.hid (S9.out.put nn kk); have f3 := S10.out.bs.frozen 3; have y3 := S10.out.bs.cell 3; have S11 := Lib.hid (S10.out.set 3 (.int .u32 (n32 (UInt32.ofNat v)))); have d0 := S11.out.rd.cell 0; have d1 := S11.out.rd.cell 1; clear nn kk zz))
        go_at_call 41
        refine (hg5.out _).mono ?_
        rintro e w12 ⟨rfl, g12⟩
        have S12 := Lib.hid (S11.out.gr g12)
        have gA := (Gr.refl w12).alloc (.cells (rdC st5) 77)
        have gB := gA.alloc (.cells #[.int .u64 (n64 x), .int .u64 (n64 y)] 31)
        have S13 := Lib.hid (S12.out.gr gB)
        have U13 := Blk.new (w12.alloc (.cells (rdC st5) 77)) 31 #[.int .u64 (n64 x), .int .u64 (n64 y)]
        rw [World.size_alloc] at U13
        replace U13 := Lib.hid U13
        have hz12 := S12.out.lt
        clear S9 S10 S11 S12 f3 y3 d0 d1 gA gB g12 hg5
        have hen := Lib.hid (fun w => refEnd_any st5 w)
        have hRg := hRg.out
        try unfold fin at hRg
        obtain ⟨q, hq⟩ : ∃ q, ended st5 = q := ⟨_, rfl⟩
        simp only [hq] at hRg
        rw [hq] at hen
        clear hq
        by_cases hq0 : q = 0
        · rw [if_neg (by simpa using hq0)] at hRg
          subst hq0
          obtain ⟨b, hb⟩ : ∃ b, right ⟨(z : Int), out, (t : Int), (UInt32.ofNat v, x, y)⟩ = b := ⟨_, rfl⟩
          have hro := Lib.hid (fun w => refRight_any ⟨(z : Int), out, (t : Int), (UInt32.ofNat v, x, y)⟩ A0 c0 w)
          rw [hb] at hRg hro
          clear hb
          replace hRg := Lib.hid hRg
          go_wp2_with (first
            | ((with_reducible refine wpList_isStore 77 (.tmp 4) (.tmp 92) rfl ?_); refine wpList_store_blk rfl 77 (.tmp 4) (.tmp 92) rfl (w.heap.size + 1) (rdC st5) rfl rfl 77 _ S13.out.rd rdInfo rfl (by simp [Value.oneCell']) ?_; intro w14 nn kk zz; have S14 := Lib.hid (S13.out.put nn kk); have U14 := kk.blk U13.out (by omega); have u0 := U14.cell 0; have u1 := U14.cell 1; have f4 := S14.out.bs.frozen 4; have f5 := S14.out.bs.frozen 5; have y4 := S14.out.bs.cell 4; have y5 := S14.out.bs.cell 5; have S15 := Lib.hid ((S14.out.set 4 (.int .u64 (n64 x))).set 5 (.int .u64 (n64 y))); have d0 := S15.out.rd.cell 0; have d1 := S15.out.rd.cell 1; clear U14; clear nn kk zz))
          go_at_call 42
          refine (hen.out _).mono ?_
          rintro e w8 ⟨rfl, g8⟩
          have E8 := Lib.hid (S15.out.gr g8)
          clear hen g8 S15 d0 d1 S13 S14 U13 u0 u1 f4 f5 y4 y5
          go_wp2_with (first
            | ((with_reducible refine wpList_isLoad 45 (.tmp 5) rfl ?_); refine wpList_load_row rfl 45 (.tmp 5) rfl (w.heap.size + 2) rfl 45 _ (0, 0) _ E8.out.bs Try.underlying45 rfl (refSigInfo _ _ _ _ _ _) ?_))
          go_at_call 25
          refine (hro.out _).mono ?_
          rintro e w9' ⟨rfl, g9⟩
          have E9 := Lib.hid (E8.out.gr g9)
          clear E8 g9 hro
          cases b
          · have hRe := hRg.out
            rw [if_neg (by simp)] at hRe
            subst hRe
            clear hRg
            go_wp2_with (first
              | ((with_reducible refine wpList_isLoad 45 (.tmp 5) rfl ?_); refine wpList_load_row rfl 45 (.tmp 5) rfl (w.heap.size + 2) rfl 45 _ (0, 0) _ E9.out.bs Try.underlying45 rfl (refSigInfo _ _ _ _ _ _) ?_)
              | ((with_reducible refine wpList_isStore 45 (.tmp 2) (.tmp 105) rfl ?_); refine wpList_store_blk rfl 45 (.tmp 2) (.tmp 105) rfl w.heap.size sigZ2 rfl rfl 45 sigZ2 E9.out.br (refSigInfo _ _ _ _ _ _) rfl (by simp [Value.oneCell']) ?_; intro w9 n9 k9 z9; have x0 := n9.cell 0; have x1 := n9.cell 1; have x2 := n9.cell 2; have x3 := n9.cell 3; have x4 := n9.cell 4; have x5 := n9.cell 5; have B9 := Lib.hid (below_kb2 E9.out.bel k9 (Nat.le_refl _)); have O9 := Lib.hid (os_kb E9.out.os k9 (by omega)); clear n9 k9 z9))
            exact bodyPost_ret (v := .tuple #[.agg sigZ2, .int .i64 (3 : Int)]) (by simp [results, Try.results21, go_sem, x0, x1, x2, x3, x4, x5]) rfl ⟨none, 0, rfl, OS.nil_ _ _ _, B9.out⟩
          · have hRe := hRg.out
            rw [if_pos rfl] at hRe
            subst hRe
            clear hRg
            go_wp2_with (first
              | ((with_reducible refine wpList_isLoad 45 (.tmp 5) rfl ?_); refine wpList_load_row rfl 45 (.tmp 5) rfl (w.heap.size + 2) rfl 45 _ (0, 0) _ E9.out.bs Try.underlying45 rfl (refSigInfo _ _ _ _ _ _) ?_)
              | ((with_reducible refine wpList_isStore 45 (.tmp 2) (.tmp 106) rfl ?_); refine wpList_store_blk rfl 45 (.tmp 2) (.tmp 106) rfl w.heap.size (sigC (z : Int) (.slice A0 out.length c0) (t : Int) (UInt32.ofNat v, x, y)) rfl rfl 45 sigZ2 E9.out.br (refSigInfo _ _ _ _ _ _) rfl (by simp [Value.oneCell']) ?_; intro w9 n9 k9 z9; have x0 := n9.cell 0; have x1 := n9.cell 1; have x2 := n9.cell 2; have x3 := n9.cell 3; have x4 := n9.cell 4; have x5 := n9.cell 5; have B9 := Lib.hid (below_kb2 E9.out.bel k9 (Nat.le_refl _)); have O9 := Lib.hid (os_kb E9.out.os k9 (by omega)); clear n9 k9 z9))
            exact bodyPost_ret (v := .tuple #[.agg (sigC (z : Int) (.slice A0 out.length c0) (t : Int) (UInt32.ofNat v, x, y)), .int .i64 (0 : Int)]) (by simp [results, Try.results21, go_sem, x0, x1, x2, x3, x4, x5]) rfl ⟨A0, c0, rfl, OR.base_le O9.out (by omega), B9.out⟩
        · rw [if_pos hq0] at hRg
          subst hRg
          have hqi : ((q : Int) == 0) = false := by simp [hq0]
          have hqb : ¬ (q : Int) = 0 := by omega
          go_wp2_with (first
            | ((with_reducible refine wpList_isStore 77 (.tmp 4) (.tmp 92) rfl ?_); refine wpList_store_blk rfl 77 (.tmp 4) (.tmp 92) rfl (w.heap.size + 1) (rdC st5) rfl rfl 77 _ S13.out.rd rdInfo rfl (by simp [Value.oneCell']) ?_; intro w14 nn kk zz; have S14 := Lib.hid (S13.out.put nn kk); have U14 := kk.blk U13.out (by omega); have u0 := U14.cell 0; have u1 := U14.cell 1; have f4 := S14.out.bs.frozen 4; have f5 := S14.out.bs.frozen 5; have y4 := S14.out.bs.cell 4; have y5 := S14.out.bs.cell 5; have S15 := Lib.hid ((S14.out.set 4 (.int .u64 (n64 x))).set 5 (.int .u64 (n64 y))); have d0 := S15.out.rd.cell 0; have d1 := S15.out.rd.cell 1; clear U14; clear nn kk zz))
          go_at_call 42
          refine (hen.out _).mono ?_
          rintro e w8 ⟨rfl, g8⟩
          have E8 := Lib.hid (S15.out.gr g8)
          clear g8 S15 d0 d1 S13 S14 U13 u0 u1 f4 f5 y4 y5
          have d0 := E8.out.rd.cell 0
          have d1 := E8.out.rd.cell 1
          go_wp2_with fail
          go_at_call 42
          refine (hen.out _).mono ?_
          rintro e w9' ⟨rfl, g9⟩
          have E9 := Lib.hid (E8.out.gr g9)
          clear g9 E8 d0 d1 hen
          go_wp2_with (first
            | ((with_reducible refine wpList_isLoad 45 (.tmp 5) rfl ?_); refine wpList_load_row rfl 45 (.tmp 5) rfl (w.heap.size + 2) rfl 45 _ (0, 0) _ E9.out.bs Try.underlying45 rfl (refSigInfo _ _ _ _ _ _) ?_)
            | ((with_reducible refine wpList_isStore 45 (.tmp 2) (.tmp 99) rfl ?_); refine wpList_store_blk rfl 45 (.tmp 2) (.tmp 99) rfl w.heap.size sigZ2 rfl rfl 45 sigZ2 E9.out.br (refSigInfo _ _ _ _ _ _) rfl (by simp [Value.oneCell']) ?_; intro w9 n9 k9 z9; have x0 := n9.cell 0; have x1 := n9.cell 1; have x2 := n9.cell 2; have x3 := n9.cell 3; have x4 := n9.cell 4; have x5 := n9.cell 5; have B9 := Lib.hid (below_kb2 E9.out.bel k9 (Nat.le_refl _)); have O9 := Lib.hid (os_kb E9.out.os k9 (by omega)); clear n9 k9 z9))
          exact bodyPost_ret (v := .tuple #[.agg sigZ2, .int .i64 ((q : Nat) : Int)]) (by simp [results, Try.results21, go_sem, x0, x1, x2, x3, x4, x5]) rfl ⟨none, 0, rfl, OS.nil_ _ _ _, B9.out⟩
      · obtain rfl : t = 0 := by omega
        have hRg := hRf.out
        unfold lastR at hRg
        rw [if_neg ht] at hRg
        unfold fin at hRg
        rw [show ((0 : Nat) : Int) = 0 from rfl] at hRg
        replace hRg := Lib.hid hRg
        clear hRf ht
        have hen := Lib.hid (fun w => refEnd_any st3 w)
        have hRg := hRg.out
        try unfold fin at hRg
        obtain ⟨q, hq⟩ : ∃ q, ended st3 = q := ⟨_, rfl⟩
        simp only [hq] at hRg
        rw [hq] at hen
        clear hq
        by_cases hq0 : q = 0
        · rw [if_neg (by simpa using hq0)] at hRg
          subst hq0
          obtain ⟨b, hb⟩ : ∃ b, right ⟨(z : Int), out, (0 : Int), zero⟩ = b := ⟨_, rfl⟩
          have hro := Lib.hid (fun w => refRight_any ⟨(z : Int), out, (0 : Int), zero⟩ A0 c0 w)
          rw [hb] at hRg hro
          clear hb
          replace hRg := Lib.hid hRg
          go_wp2_with (first
            | ((with_reducible refine wpList_isStore 77 (.tmp 4) (.tmp 72) rfl ?_); refine wpList_store_blk rfl 77 (.tmp 4) (.tmp 72) rfl (w.heap.size + 1) (rdC st3) rfl rfl 77 _ S6.out.rd rdInfo rfl (by simp [Value.oneCell']) ?_; intro w7 nn kk zz; have S7 := Lib.hid (S6.out.put nn kk); have f2 := S7.out.bs.frozen 2; have y2 := S7.out.bs.cell 2; have S8 := Lib.hid (S7.out.set 2 (.int .i64 0)); have u2 := S8.out.bs.cell 2; have d0 := S8.out.rd.cell 0; have d1 := S8.out.rd.cell 1; clear nn kk zz))
          go_at_call 42
          refine (hen.out _).mono ?_
          rintro e w8 ⟨rfl, g8⟩
          have E8 := Lib.hid (S8.out.gr g8)
          clear hen g8 S8 d0 d1 S6 S7 f2 y2 u2
          go_wp2_with (first
            | ((with_reducible refine wpList_isLoad 45 (.tmp 5) rfl ?_); refine wpList_load_row rfl 45 (.tmp 5) rfl (w.heap.size + 2) rfl 45 _ (0, 0) _ E8.out.bs Try.underlying45 rfl (refSigInfo _ _ _ _ _ _) ?_))
          go_at_call 25
          refine (hro.out _).mono ?_
          rintro e w9' ⟨rfl, g9⟩
          have E9 := Lib.hid (E8.out.gr g9)
          clear E8 g9 hro
          cases b
          · have hRe := hRg.out
            rw [if_neg (by simp)] at hRe
            subst hRe
            clear hRg
            go_wp2_with (first
              | ((with_reducible refine wpList_isLoad 45 (.tmp 5) rfl ?_); refine wpList_load_row rfl 45 (.tmp 5) rfl (w.heap.size + 2) rfl 45 _ (0, 0) _ E9.out.bs Try.underlying45 rfl (refSigInfo _ _ _ _ _ _) ?_)
              | ((with_reducible refine wpList_isStore 45 (.tmp 2) (.tmp 105) rfl ?_); refine wpList_store_blk rfl 45 (.tmp 2) (.tmp 105) rfl w.heap.size sigZ2 rfl rfl 45 sigZ2 E9.out.br (refSigInfo _ _ _ _ _ _) rfl (by simp [Value.oneCell']) ?_; intro w9 n9 k9 z9; have x0 := n9.cell 0; have x1 := n9.cell 1; have x2 := n9.cell 2; have x3 := n9.cell 3; have x4 := n9.cell 4; have x5 := n9.cell 5; have B9 := Lib.hid (below_kb2 E9.out.bel k9 (Nat.le_refl _)); have O9 := Lib.hid (os_kb E9.out.os k9 (by omega)); clear n9 k9 z9))
            exact bodyPost_ret (v := .tuple #[.agg sigZ2, .int .i64 (3 : Int)]) (by simp [results, Try.results21, go_sem, x0, x1, x2, x3, x4, x5]) rfl ⟨none, 0, rfl, OS.nil_ _ _ _, B9.out⟩
          · have hRe := hRg.out
            rw [if_pos rfl] at hRe
            subst hRe
            clear hRg
            go_wp2_with (first
              | ((with_reducible refine wpList_isLoad 45 (.tmp 5) rfl ?_); refine wpList_load_row rfl 45 (.tmp 5) rfl (w.heap.size + 2) rfl 45 _ (0, 0) _ E9.out.bs Try.underlying45 rfl (refSigInfo _ _ _ _ _ _) ?_)
              | ((with_reducible refine wpList_isStore 45 (.tmp 2) (.tmp 106) rfl ?_); refine wpList_store_blk rfl 45 (.tmp 2) (.tmp 106) rfl w.heap.size (sigC (z : Int) (.slice A0 out.length c0) (0 : Int) zero) rfl rfl 45 sigZ2 E9.out.br (refSigInfo _ _ _ _ _ _) rfl (by simp [Value.oneCell']) ?_; intro w9 n9 k9 z9; have x0 := n9.cell 0; have x1 := n9.cell 1; have x2 := n9.cell 2; have x3 := n9.cell 3; have x4 := n9.cell 4; have x5 := n9.cell 5; have B9 := Lib.hid (below_kb2 E9.out.bel k9 (Nat.le_refl _)); have O9 := Lib.hid (os_kb E9.out.os k9 (by omega)); clear n9 k9 z9))
            exact bodyPost_ret (v := .tuple #[.agg (sigC (z : Int) (.slice A0 out.length c0) (0 : Int) zero), .int .i64 (0 : Int)]) (by simp [results, Try.results21, go_sem, x0, x1, x2, x3, x4, x5]) rfl ⟨A0, c0, rfl, OR.base_le O9.out (by omega), B9.out⟩
        · rw [if_pos hq0] at hRg
          subst hRg
          have hqi : ((q : Int) == 0) = false := by simp [hq0]
          have hqb : ¬ (q : Int) = 0 := by omega
          go_wp2_with (first
            | ((with_reducible refine wpList_isStore 77 (.tmp 4) (.tmp 72) rfl ?_); refine wpList_store_blk rfl 77 (.tmp 4) (.tmp 72) rfl (w.heap.size + 1) (rdC st3) rfl rfl 77 _ S6.out.rd rdInfo rfl (by simp [Value.oneCell']) ?_; intro w7 nn kk zz; have S7 := Lib.hid (S6.out.put nn kk); have f2 := S7.out.bs.frozen 2; have y2 := S7.out.bs.cell 2; have S8 := Lib.hid (S7.out.set 2 (.int .i64 0)); have u2 := S8.out.bs.cell 2; have d0 := S8.out.rd.cell 0; have d1 := S8.out.rd.cell 1; clear nn kk zz))
          go_at_call 42
          refine (hen.out _).mono ?_
          rintro e w8 ⟨rfl, g8⟩
          have E8 := Lib.hid (S8.out.gr g8)
          clear g8 S8 d0 d1 S6 S7 f2 y2 u2
          have d0 := E8.out.rd.cell 0
          have d1 := E8.out.rd.cell 1
          go_wp2_with fail
          go_at_call 42
          refine (hen.out _).mono ?_
          rintro e w9' ⟨rfl, g9⟩
          have E9 := Lib.hid (E8.out.gr g9)
          clear g9 E8 d0 d1 hen
          go_wp2_with (first
            | ((with_reducible refine wpList_isLoad 45 (.tmp 5) rfl ?_); refine wpList_load_row rfl 45 (.tmp 5) rfl (w.heap.size + 2) rfl 45 _ (0, 0) _ E9.out.bs Try.underlying45 rfl (refSigInfo _ _ _ _ _ _) ?_)
            | ((with_reducible refine wpList_isStore 45 (.tmp 2) (.tmp 99) rfl ?_); refine wpList_store_blk rfl 45 (.tmp 2) (.tmp 99) rfl w.heap.size sigZ2 rfl rfl 45 sigZ2 E9.out.br (refSigInfo _ _ _ _ _ _) rfl (by simp [Value.oneCell']) ?_; intro w9 n9 k9 z9; have x0 := n9.cell 0; have x1 := n9.cell 1; have x2 := n9.cell 2; have x3 := n9.cell 3; have x4 := n9.cell 4; have x5 := n9.cell 5; have B9 := Lib.hid (below_kb2 E9.out.bel k9 (Nat.le_refl _)); have O9 := Lib.hid (os_kb E9.out.os k9 (by omega)); clear n9 k9 z9))
          exact bodyPost_ret (v := .tuple #[.agg sigZ2, .int .i64 ((q : Nat) : Int)]) (by simp [results, Try.results21, go_sem, x0, x1, x2, x3, x4, x5]) rfl ⟨none, 0, rfl, OS.nil_ _ _ _, B9.out⟩
end Sg
end Go.Proofs.Ytcibngbgcnnjnaa
namespace Go.Proofs.Ytcibngbgcnnjnaa
open Go Go.RowKit W Bl
namespace Sg
theorem gets_bs (l : List UInt8) : (gets l).1.bs.length ≤ 1000000 := by
  unfold gets fin2 fin
  split
  · simp [empty]
  · split
    · rename_i h
      obtain ⟨_, _, h3, _⟩ := right_spec h
      simp only at h3 ⊢
      omega
    · simp [empty]
/-- The value is the signature s. -/
def isSg' (s : Sig) : Ass := fun v w => ∃ A c, v = sigV s A c ∧ SR w w.heap.size A s.bs
theorem isSg_lasts' (s : Sig) : Lasts (isSg' s) := fun _ _ _ hg ⟨A, c, hv, hr⟩ => ⟨A, c, hv, (hr.below hg).more hg.size⟩
theorem isSg_out' {E : TypeId} {s : Sig} {A : Option Addr} {c base : Nat} {w : World} (h : OS E w base (.slice A s.bs.length c) s.bs) : isSg' s (sigV s A c) w := ⟨A, c, rfl, OS.sr h⟩
set_option maxRecDepth 100000 in
set_option maxHeartbeats 8000000 in
theorem blockGets_walk (A : Option Addr) (c : Nat) (l : List UInt8) (w : World) (hc : l.length ≤ c) (hcm : c ≤ maxLen) (hr : RB w w.heap.size A l) :
    Calls Try.prog 5 #[.slice A l.length c] w (Ret (eqv (.bool true)) w) := by
  by_cases h500 : l.length ≤ 500
  · have h500' : ¬ (500 : Int) < (l.length : Int) := by omega
    have hge := Lib.hid (get_any A c l w (by omega) hr)
    have hrg := Lib.hid (fun w => refGet_sig l w (by omega))
    have hbk := Lib.hid (fun h => gets_back (l := l) h)
    have hbs := Lib.hid (gets_bs l)
    have hr' := Lib.hid hr
    clear hr
    generalize gets l = R at *
    obtain ⟨s, q⟩ := R
    simp only at hbk hbs
    have hfr := Lib.hid (fun A c w hl => from_any s A c w hl hbs.out)
    have hsm := Lib.hid (fun A B c d w hl hm => refSame_any s s A B c d w hl hm hbs.out)
    go_enter Try.func5, Try.ntmps5
    go_wp2_with fail
    go_at_call 20
    refine hge.out.mono ?_
    rintro e w1 ⟨A1, c1, rfl, o1, g1⟩
    have gg1 := Gr.alloc g1 (.cells (sigC s.size (.slice A1 s.bs.length c1) s.tail s.last) 35)
    have n1 := Lib.hid (Blk.new w1 35 (sigC s.size (.slice A1 s.bs.length c1) s.tail s.last))
    have r1 := Lib.hid (((OS.sr o1).below ((Gr.refl w1).alloc (.cells (sigC s.size (.slice A1 s.bs.length c1) s.tail s.last) 35))).more (by rw [World.size_alloc]; omega) : SR (w1.alloc (.cells (sigC s.size (.slice A1 s.bs.length c1) s.tail s.last) 35)) (w1.alloc (.cells (sigC s.size (.slice A1 s.bs.length c1) s.tail s.last) 35)).heap.size A1 s.bs)
    have rA := Lib.hid ((hr'.out.below gg1).more (Below.size gg1))
    have G1 := Lib.hid gg1
    clear g1 gg1 o1 hge
    go_wp2_with (first
      | (refine wpList_bytes_string rfl (.tmp 17) 26 9 5 rfl Try.underlying26 Bl.byteType.1 Try.underlying9 _ _ _ _ l rfl rfl rA.out ?_))
    go_at_call 21
    refine (hrg.out _).mono ?_
    rintro e w2 ⟨A2, c2, rfl, o2, g2⟩
    have gg2 := Gr.alloc g2 (.cells (sigC s.size (.slice A2 s.bs.length c2) s.tail s.last) 45)
    have n2 := Lib.hid (blk_more n1.out gg2)
    have m2 := Lib.hid (Blk.new w2 45 (sigC s.size (.slice A2 s.bs.length c2) s.tail s.last))
    have r2 := Lib.hid ((r1.out.below gg2).more (Below.size gg2))
    have p2 := Lib.hid (((OS.sr o2).below ((Gr.refl w2).alloc (.cells (sigC s.size (.slice A2 s.bs.length c2) s.tail s.last) 45))).more (by rw [World.size_alloc]; omega) : SR (w2.alloc (.cells (sigC s.size (.slice A2 s.bs.length c2) s.tail s.last) 45)) (w2.alloc (.cells (sigC s.size (.slice A2 s.bs.length c2) s.tail s.last) 45)).heap.size A2 s.bs)
    have rD := Lib.hid ((rA.out.below gg2).more (Below.size gg2))
    have G4 := Lib.hid (Gr.trans G1.out gg2)
    clear n1 r1 rA G1 g2 gg2 o2 hrg
    by_cases hq : q = 0
    · have hp := hbk.out hq
      subst hq
      clear hbk
      have hpt := Lib.hid (fun A c w hr => put_any s A c w hr)
      rw [hp] at hpt
      clear hp
      go_wp2
      refine region_grow (by kernel_rfl) (by kernel_rfl) ?_
      refine GW.call0 (eqv (.bool true)) rfl trivial rfl Try.func9 (by kernel_rfl) (by kernel_rfl) (eqv_lasts _)  (fun w' hg => ?_) ?_
      · refine (awake_any w').mono ?_
        rintro e w9 ⟨rfl, hg9⟩
        exact ⟨_, rfl, rfl, hg9⟩
      refine GW.mv rfl trivial (.inl rfl) (kn (t := 22) (j := 0) (by kernel_rfl)) (eqv_lasts _) ?_
      refine GW.p1 (.agg #[.int .i64 s.size, .slice A1 s.bs.length c1, .int .i64 s.tail, .int .u32 (n32 s.last.1), .int .u64 (n64 s.last.2.1), .int .u64 (n64 s.last.2.2)]) rfl ⟨23, by kernel_rfl, by kernel_rfl, fun _ _ h => h⟩ (kn0 (t := 3) (c := .pointer (some ⟨w1.heap.size, 0, none⟩)) (by kernel_rfl) rfl) (fun ρ w' hρ hg => by simp [execOp, hρ, go_sem, (hg.cell (p := ⟨w1.heap.size, 0, none⟩) n2.out.lt).trans (n2.out.cell 0), (hg.cell (p := ⟨w1.heap.size, 1, none⟩) n2.out.lt).trans (n2.out.cell 1), (hg.cell (p := ⟨w1.heap.size, 2, none⟩) n2.out.lt).trans (n2.out.cell 2), (hg.cell (p := ⟨w1.heap.size, 3, none⟩) n2.out.lt).trans (n2.out.cell 3), (hg.cell (p := ⟨w1.heap.size, 4, none⟩) n2.out.lt).trans (n2.out.cell 4), (hg.cell (p := ⟨w1.heap.size, 5, none⟩) n2.out.lt).trans (n2.out.cell 5)]) ?_
      refine GW.call1 (isSg' s) rfl ⟨23, by kernel_rfl, by kernel_rfl, fun _ _ h => h⟩ rfl Try.func15 (by kernel_rfl) (by kernel_rfl) (isSg_lasts' _) (kn (t := 24) (j := 2) (by kernel_rfl)) (fun v w' hg hv => ?_) ?_
      · obtain rfl : v = _ := hv
        refine (hfr.out A1 c1 w' ((r2.out.below hg).more (Below.size hg))).mono ?_
        rintro e w9 ⟨A9, c9, rfl, o9, hg9⟩
        exact ⟨_, rfl, isSg_out' o9, hg9⟩
      refine GW.p1 (.agg #[.int .i64 s.size, .slice A2 s.bs.length c2, .int .i64 s.tail, .int .u32 (n32 s.last.1), .int .u64 (n64 s.last.2.1), .int .u64 (n64 s.last.2.2)]) rfl ⟨23, by kernel_rfl, by kernel_rfl, fun _ _ h => h⟩ (kn0 (t := 5) (c := .pointer (some ⟨w2.heap.size, 0, none⟩)) (by kernel_rfl) rfl) (fun ρ w' hρ hg => by simp [execOp, hρ, go_sem, (hg.cell (p := ⟨w2.heap.size, 0, none⟩) m2.out.lt).trans (m2.out.cell 0), (hg.cell (p := ⟨w2.heap.size, 1, none⟩) m2.out.lt).trans (m2.out.cell 1), (hg.cell (p := ⟨w2.heap.size, 2, none⟩) m2.out.lt).trans (m2.out.cell 2), (hg.cell (p := ⟨w2.heap.size, 3, none⟩) m2.out.lt).trans (m2.out.cell 3), (hg.cell (p := ⟨w2.heap.size, 4, none⟩) m2.out.lt).trans (m2.out.cell 4), (hg.cell (p := ⟨w2.heap.size, 5, none⟩) m2.out.lt).trans (m2.out.cell 5)]) ?_
      refine GW.call2 (eqv (.bool true)) rfl ⟨23, by kernel_rfl, by kernel_rfl, fun _ _ h => h⟩ rfl Try.func14 (by kernel_rfl) (by kernel_rfl) (eqv_lasts _) (kn (t := 25) (j := 3) (by kernel_rfl)) (kn (t := 26) (j := 4) (by kernel_rfl)) (fun v u w' hg hv hu => ?_) ?_
      · obtain ⟨A8, c8, rfl, q8⟩ := hv
        obtain rfl : u = _ := hu
        refine (hsm.out A8 A2 c8 c2 w' q8 ((p2.out.below hg).more (Below.size hg))).mono ?_
        rintro e w9 ⟨rfl, hg9⟩
        exact ⟨_, rfl, rfl, hg9⟩
      refine GW.pick (b := true) rfl trivial rfl (kn (t := 23) (j := 1) (by kernel_rfl)) (kn (t := 27) (j := 5) (by kernel_rfl)) (eqv_lasts _) ?_
      refine GW.mv rfl trivial (.inl rfl) (kn (t := 28) (j := 6) (by kernel_rfl)) (eqv_lasts _) ?_
      refine GW.mv rfl ⟨29, by kernel_rfl, by kernel_rfl, fun _ _ h => h⟩ (.inl rfl) (kn0 (t := 4) (c := .int .i64 ((0 : Nat) : Int)) (by kernel_rfl) rfl) (eqv_lasts _) ?_
      refine GW.mv rfl ⟨29, by kernel_rfl, by kernel_rfl, fun _ _ h => h⟩ (.inl rfl) (kn0 (t := 6) (c := .int .i64 ((0 : Nat) : Int)) (by kernel_rfl) rfl) (eqv_lasts _) ?_
      refine GW.bin (.bool true) rfl ⟨29, by kernel_rfl, by kernel_rfl, fun _ _ h => h⟩ rfl (kn (t := 30) (j := 8) (by kernel_rfl)) (kn (t := 31) (j := 9) (by kernel_rfl)) (fun w' => by simp [go_sem]) ?_
      refine GW.pick (b := true) rfl trivial rfl (kn (t := 29) (j := 7) (by kernel_rfl)) (kn (t := 32) (j := 10) (by kernel_rfl)) (eqv_lasts _) ?_
      refine GW.mv rfl trivial (.inl rfl) (kn (t := 33) (j := 11) (by kernel_rfl)) (eqv_lasts _) ?_
      refine GW.mv rfl ⟨34, by kernel_rfl, by kernel_rfl, fun _ _ h => h⟩ (.inl rfl) (kn0 (t := 6) (c := .int .i64 ((0 : Nat) : Int)) (by kernel_rfl) rfl) (eqv_lasts _) ?_
      refine GW.bin (.bool false) rfl ⟨34, by kernel_rfl, by kernel_rfl, fun _ _ h => h⟩ rfl (kn (t := 35) (j := 13) (by kernel_rfl)) knc (fun w' => by simp [go_sem]) ?_
      refine GW.mv rfl ⟨34, by kernel_rfl, by kernel_rfl, fun _ _ h => h⟩ (.inl rfl) (kn (t := 36) (j := 14) (by kernel_rfl)) (eqv_lasts _) ?_
      refine GW.p1 (.agg #[.int .i64 s.size, .slice A1 s.bs.length c1, .int .i64 s.tail, .int .u32 (n32 s.last.1), .int .u64 (n64 s.last.2.1), .int .u64 (n64 s.last.2.2)]) rfl ⟨37, by kernel_rfl, by kernel_rfl, fun _ _ h => h⟩ (kn0 (t := 3) (c := .pointer (some ⟨w1.heap.size, 0, none⟩)) (by kernel_rfl) rfl) (fun ρ w' hρ hg => by simp [execOp, hρ, go_sem, (hg.cell (p := ⟨w1.heap.size, 0, none⟩) n2.out.lt).trans (n2.out.cell 0), (hg.cell (p := ⟨w1.heap.size, 1, none⟩) n2.out.lt).trans (n2.out.cell 1), (hg.cell (p := ⟨w1.heap.size, 2, none⟩) n2.out.lt).trans (n2.out.cell 2), (hg.cell (p := ⟨w1.heap.size, 3, none⟩) n2.out.lt).trans (n2.out.cell 3), (hg.cell (p := ⟨w1.heap.size, 4, none⟩) n2.out.lt).trans (n2.out.cell 4), (hg.cell (p := ⟨w1.heap.size, 5, none⟩) n2.out.lt).trans (n2.out.cell 5)]) ?_
      refine GW.call1 (isB l) rfl ⟨37, by kernel_rfl, by kernel_rfl, fun _ _ h => h⟩ rfl Try.func22 (by kernel_rfl) (by kernel_rfl) (isB_lasts _) (kn (t := 38) (j := 16) (by kernel_rfl)) (fun v w' hg hv => ?_) ?_
      · obtain rfl : v = _ := hv
        refine (hpt.out A1 c1 w' ((r2.out.below hg).more (Below.size hg))).mono ?_
        rintro e w9 ⟨v9, rfl, i9, hg9⟩
        exact ⟨_, rfl, i9, hg9⟩
      refine GW.bs (l) rfl ⟨37, by kernel_rfl, by kernel_rfl, fun _ _ h => h⟩ rfl Try.underlying26 byteType.1 Try.underlying9 (kn (t := 39) (j := 17) (by kernel_rfl)) ?_
      refine GW.mv rfl ⟨37, by kernel_rfl, by kernel_rfl, fun _ _ h => h⟩ (.inl rfl) (kn0' (t := 0) (c := .slice A l.length c) (by kernel_rfl) rfl (isB_lasts _) (⟨A, c, rfl, hc, hcm, rD.out⟩)) (isB_lasts _) ?_
      refine GW.bs (l) rfl ⟨37, by kernel_rfl, by kernel_rfl, fun _ _ h => h⟩ rfl Try.underlying26 byteType.1 Try.underlying9 (kn (t := 41) (j := 19) (by kernel_rfl)) ?_
      refine GW.bin (.bool true) rfl ⟨37, by kernel_rfl, by kernel_rfl, fun _ _ h => h⟩ rfl (kn (t := 40) (j := 18) (by kernel_rfl)) (kn (t := 42) (j := 20) (by kernel_rfl)) (fun w' => by simp [go_sem]) ?_
      refine GW.pick (b := false) rfl ⟨34, by kernel_rfl, by kernel_rfl, fun _ _ h => h⟩ rfl (kn (t := 37) (j := 15) (by kernel_rfl)) (kn (t := 43) (j := 21) (by kernel_rfl)) (eqv_lasts _) ?_
      refine GW.pick (b := true) rfl trivial rfl (kn (t := 34) (j := 12) (by kernel_rfl)) (kn (t := 44) (j := 22) (by kernel_rfl)) (eqv_lasts _) ?_
      refine GW.mv rfl trivial (.inr rfl) (kn (t := 45) (j := 23) (by kernel_rfl)) (eqv_lasts _) ?_
      refine GW.done (by simp) (by kernel_rfl) (fun w' hg_ => ?_)
      intro v0 _ v1 _ v2 _ v3 _ v4 _ v5 _ v6 _ v7 _ v8 _ v9 _ v10 _ v11 _ v12 _ v13 _ v14 _ v15 _ v16 _ v17 _ v18 _ v19 _ v20 _ v21 _ v22 _ v23 _ v24 h24
      obtain rfl : v24 = (.bool true) := h24
      simp only [GFin, Act.put, List.setIfInBounds_toArray, List.set_cons_succ, List.set_cons_zero]
      go_wp2
      go_ret
      exact ⟨_, rfl, rfl, Gr.trans G4.out hg_⟩
    · clear hbk
      have hqn : ¬ (q : Int) = 0 := by omega
      have hqb : ((q : Int) == 0) = false := by simp [hq]
      go_wp2
      refine region_grow (by kernel_rfl) (by kernel_rfl) ?_
      refine GW.call0 (eqv (.bool true)) rfl trivial rfl Try.func9 (by kernel_rfl) (by kernel_rfl) (eqv_lasts _)  (fun w' hg => ?_) ?_
      · refine (awake_any w').mono ?_
        rintro e w9 ⟨rfl, hg9⟩
        exact ⟨_, rfl, rfl, hg9⟩
      refine GW.mv rfl trivial (.inl rfl) (kn (t := 22) (j := 0) (by kernel_rfl)) (eqv_lasts _) ?_
      refine GW.p1 (.agg #[.int .i64 s.size, .slice A1 s.bs.length c1, .int .i64 s.tail, .int .u32 (n32 s.last.1), .int .u64 (n64 s.last.2.1), .int .u64 (n64 s.last.2.2)]) rfl ⟨23, by kernel_rfl, by kernel_rfl, fun _ _ h => h⟩ (kn0 (t := 3) (c := .pointer (some ⟨w1.heap.size, 0, none⟩)) (by kernel_rfl) rfl) (fun ρ w' hρ hg => by simp [execOp, hρ, go_sem, (hg.cell (p := ⟨w1.heap.size, 0, none⟩) n2.out.lt).trans (n2.out.cell 0), (hg.cell (p := ⟨w1.heap.size, 1, none⟩) n2.out.lt).trans (n2.out.cell 1), (hg.cell (p := ⟨w1.heap.size, 2, none⟩) n2.out.lt).trans (n2.out.cell 2), (hg.cell (p := ⟨w1.heap.size, 3, none⟩) n2.out.lt).trans (n2.out.cell 3), (hg.cell (p := ⟨w1.heap.size, 4, none⟩) n2.out.lt).trans (n2.out.cell 4), (hg.cell (p := ⟨w1.heap.size, 5, none⟩) n2.out.lt).trans (n2.out.cell 5)]) ?_
      refine GW.call1 (isSg' s) rfl ⟨23, by kernel_rfl, by kernel_rfl, fun _ _ h => h⟩ rfl Try.func15 (by kernel_rfl) (by kernel_rfl) (isSg_lasts' _) (kn (t := 24) (j := 2) (by kernel_rfl)) (fun v w' hg hv => ?_) ?_
      · obtain rfl : v = _ := hv
        refine (hfr.out A1 c1 w' ((r2.out.below hg).more (Below.size hg))).mono ?_
        rintro e w9 ⟨A9, c9, rfl, o9, hg9⟩
        exact ⟨_, rfl, isSg_out' o9, hg9⟩
      refine GW.p1 (.agg #[.int .i64 s.size, .slice A2 s.bs.length c2, .int .i64 s.tail, .int .u32 (n32 s.last.1), .int .u64 (n64 s.last.2.1), .int .u64 (n64 s.last.2.2)]) rfl ⟨23, by kernel_rfl, by kernel_rfl, fun _ _ h => h⟩ (kn0 (t := 5) (c := .pointer (some ⟨w2.heap.size, 0, none⟩)) (by kernel_rfl) rfl) (fun ρ w' hρ hg => by simp [execOp, hρ, go_sem, (hg.cell (p := ⟨w2.heap.size, 0, none⟩) m2.out.lt).trans (m2.out.cell 0), (hg.cell (p := ⟨w2.heap.size, 1, none⟩) m2.out.lt).trans (m2.out.cell 1), (hg.cell (p := ⟨w2.heap.size, 2, none⟩) m2.out.lt).trans (m2.out.cell 2), (hg.cell (p := ⟨w2.heap.size, 3, none⟩) m2.out.lt).trans (m2.out.cell 3), (hg.cell (p := ⟨w2.heap.size, 4, none⟩) m2.out.lt).trans (m2.out.cell 4), (hg.cell (p := ⟨w2.heap.size, 5, none⟩) m2.out.lt).trans (m2.out.cell 5)]) ?_
      refine GW.call2 (eqv (.bool true)) rfl ⟨23, by kernel_rfl, by kernel_rfl, fun _ _ h => h⟩ rfl Try.func14 (by kernel_rfl) (by kernel_rfl) (eqv_lasts _) (kn (t := 25) (j := 3) (by kernel_rfl)) (kn (t := 26) (j := 4) (by kernel_rfl)) (fun v u w' hg hv hu => ?_) ?_
      · obtain ⟨A8, c8, rfl, q8⟩ := hv
        obtain rfl : u = _ := hu
        refine (hsm.out A8 A2 c8 c2 w' q8 ((p2.out.below hg).more (Below.size hg))).mono ?_
        rintro e w9 ⟨rfl, hg9⟩
        exact ⟨_, rfl, rfl, hg9⟩
      refine GW.pick (b := true) rfl trivial rfl (kn (t := 23) (j := 1) (by kernel_rfl)) (kn (t := 27) (j := 5) (by kernel_rfl)) (eqv_lasts _) ?_
      refine GW.mv rfl trivial (.inl rfl) (kn (t := 28) (j := 6) (by kernel_rfl)) (eqv_lasts _) ?_
      refine GW.mv rfl ⟨29, by kernel_rfl, by kernel_rfl, fun _ _ h => h⟩ (.inl rfl) (kn0 (t := 4) (c := .int .i64 (q : Int)) (by kernel_rfl) rfl) (eqv_lasts _) ?_
      refine GW.mv rfl ⟨29, by kernel_rfl, by kernel_rfl, fun _ _ h => h⟩ (.inl rfl) (kn0 (t := 6) (c := .int .i64 (q : Int)) (by kernel_rfl) rfl) (eqv_lasts _) ?_
      refine GW.bin (.bool true) rfl ⟨29, by kernel_rfl, by kernel_rfl, fun _ _ h => h⟩ rfl (kn (t := 30) (j := 8) (by kernel_rfl)) (kn (t := 31) (j := 9) (by kernel_rfl)) (fun w' => by simp [go_sem]) ?_
      refine GW.pick (b := true) rfl trivial rfl (kn (t := 29) (j := 7) (by kernel_rfl)) (kn (t := 32) (j := 10) (by kernel_rfl)) (eqv_lasts _) ?_
      refine GW.mv rfl trivial (.inl rfl) (kn (t := 33) (j := 11) (by kernel_rfl)) (eqv_lasts _) ?_
      refine GW.mv rfl ⟨34, by kernel_rfl, by kernel_rfl, fun _ _ h => h⟩ (.inl rfl) (kn0 (t := 6) (c := .int .i64 (q : Int)) (by kernel_rfl) rfl) (eqv_lasts _) ?_
      refine GW.bin (.bool true) rfl ⟨34, by kernel_rfl, by kernel_rfl, fun _ _ h => h⟩ rfl (kn (t := 35) (j := 13) (by kernel_rfl)) knc (fun w' => by simp [go_sem, hqn, hqb, hq]) ?_
      refine GW.mv rfl ⟨34, by kernel_rfl, by kernel_rfl, fun _ _ h => h⟩ (.inl rfl) (kn (t := 36) (j := 14) (by kernel_rfl)) (eqv_lasts _) ?_
      refine GW.skip rfl rfl (d := 37) (by kernel_rfl) (by kernel_rfl) (fun _ _ h => .inl h) ?_
      refine GW.skip rfl rfl (d := 37) (by kernel_rfl) (by kernel_rfl) (fun _ _ h => .inl h) ?_
      refine GW.skip rfl rfl (d := 37) (by kernel_rfl) (by kernel_rfl) (fun _ _ h => .inl h) ?_
      refine GW.skip rfl rfl (d := 37) (by kernel_rfl) (by kernel_rfl) (fun _ _ h => .inl h) ?_
      refine GW.skip rfl rfl (d := 37) (by kernel_rfl) (by kernel_rfl) (fun _ _ h => .inl h) ?_
      refine GW.skip rfl rfl (d := 37) (by kernel_rfl) (by kernel_rfl) (fun _ _ h => .inl h) ?_
      refine GW.pick (b := true) rfl ⟨34, by kernel_rfl, by kernel_rfl, fun _ _ h => h⟩ rfl (kn (t := 37) (j := 15) (by kernel_rfl)) (knc) (eqv_lasts _) ?_
      refine GW.pick (b := true) rfl trivial rfl (kn (t := 34) (j := 12) (by kernel_rfl)) (kn (t := 44) (j := 22) (by kernel_rfl)) (eqv_lasts _) ?_
      refine GW.mv rfl trivial (.inr rfl) (kn (t := 45) (j := 23) (by kernel_rfl)) (eqv_lasts _) ?_
      refine GW.done (by simp) (by kernel_rfl) (fun w' hg_ => ?_)
      intro v0 _ v1 _ v2 _ v3 _ v4 _ v5 _ v6 _ v7 _ v8 _ v9 _ v10 _ v11 _ v12 _ v13 _ v14 _ v15 _ v16 _ v17 _ v18 _ v19 _ v20 _ v21 _ v22 _ v23 _ v24 h24
      obtain rfl : v24 = (Value.bool true) := h24
      simp only [GFin, Act.put, List.setIfInBounds_toArray, List.set_cons_succ, List.set_cons_zero]
      go_wp2
      go_ret
      exact ⟨_, rfl, rfl, Gr.trans G4.out hg_⟩
  · have h500' : (500 : Int) < (l.length : Int) := by omega
    clear hr
    go_enter Try.func5, Try.ntmps5
    go_wp2_with fail
    go_at_call 9
    refine (awake_any _).mono ?_
    rintro e w2 ⟨rfl, g2⟩
    go_wp2
    go_ret
    exact ⟨_, rfl, rfl, g2⟩
end Sg
end Go.Proofs.Ytcibngbgcnnjnaa
