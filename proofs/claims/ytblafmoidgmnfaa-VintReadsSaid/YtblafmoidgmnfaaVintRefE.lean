/- The walks of the reference's reader: sums, the end. No condition but sizes. -/
import Derived.Test.YtblafmoidgmnfaaVintRefD
set_option linter.unusedVariables false
set_option linter.unusedSimpArgs false
namespace Go.Proofs.Ytblafmoidgmnfaa
open Go Go.RowKit W
namespace Vint
theorem refEnd_any (s : RS) (w : World) : Calls Try.prog 23 #[rsV s] w fun e w' => e = .returned (.int .i64 (ended s : Int)) ∧ Gr w w' := by
  have hb0 := Blk.new w 40 #[.string ⟨s.1.toArray⟩, .int .i64 (s.2 : Int)]
  have hg := Lib.hid ((Gr.refl w).alloc (.cells #[.string ⟨s.1.toArray⟩, .int .i64 (s.2 : Int)] 40))
  have q0 := hb0.cell 0
  have q1 := hb0.cell 1
  clear hb0
  by_cases h0 : s.2 = 0
  · have hci : ((s.2 : Int) == 0) = true := by simp [h0]
    by_cases hl : 0 < s.1.length
    · have hli : (0 : Int) < (s.1.length : Int) := by omega
      have hf := Lib.hid (show ended s = 5 from if_pos ⟨h0, hl⟩)
      clear h0 hl
      go_enter Try.func23, Try.ntmps23
      go_wp2
      go_ret
      rw [hf.out]
      exact ⟨rfl, hg.out⟩
    · have hli : ¬ (0 : Int) < (s.1.length : Int) := by omega
      have hf := Lib.hid (show ended s = s.2 by unfold ended; rw [if_neg (fun h => hl h.2)])
      clear h0 hl
      go_enter Try.func23, Try.ntmps23
      go_wp2
      go_ret
      rw [hf.out]
      exact ⟨rfl, hg.out⟩
  · have hci : ((s.2 : Int) == 0) = false := by simp; omega
    have hf := Lib.hid (show ended s = s.2 from if_neg (fun h => h0 h.1))
    clear h0
    go_enter Try.func23, Try.ntmps23
    go_wp2
    go_ret
    rw [hf.out]
    exact ⟨rfl, hg.out⟩
abbrev getSV (r : RS × (UInt64 × UInt64)) : Value := .tuple #[rsV r.1, .agg #[.int .u64 (n64 r.2.1), .int .u64 (n64 r.2.2)]]
theorem fold8_take (l : List UInt8) (k : Nat) (h : k < l.length) : fold8 (l.take (k + 1)) = fold8 (l.take k) * 256 + (l[k]).toUInt64 := by
  rw [List.take_succ_eq_append_getElem h, fold8_snoc]
theorem pair2 {w : World} {g1 g2 : Nat} {t1 t2 : TypeId} {a0 a1 c0 c1 : Value} (h1 : Blk w g1 t1 #[a0, a1]) (h2 : Blk w g2 t2 #[c0, c1]) (hne : g1 ≠ g2) (u0 u1 v0 v1 : Value) :
    (w.frozen? ⟨g1, 0, none⟩ = false ∧ w.cell? ⟨g1, 0, none⟩ = some a0 ∧ (w.setCell ⟨g1, 0, none⟩ u0).frozen? ⟨g1, 1, none⟩ = false ∧ (w.setCell ⟨g1, 0, none⟩ u0).cell? ⟨g1, 1, none⟩ = some a1) ∧
    (((w.setCell ⟨g1, 0, none⟩ u0).setCell ⟨g1, 1, none⟩ u1).frozen? ⟨g2, 0, none⟩ = false ∧ ((w.setCell ⟨g1, 0, none⟩ u0).setCell ⟨g1, 1, none⟩ u1).cell? ⟨g2, 0, none⟩ = some c0 ∧
      (((w.setCell ⟨g1, 0, none⟩ u0).setCell ⟨g1, 1, none⟩ u1).setCell ⟨g2, 0, none⟩ v0).frozen? ⟨g2, 1, none⟩ = false ∧ (((w.setCell ⟨g1, 0, none⟩ u0).setCell ⟨g1, 1, none⟩ u1).setCell ⟨g2, 0, none⟩ v0).cell? ⟨g2, 1, none⟩ = some c1) ∧
    (w.frozen? ⟨g1, 1, none⟩ = false ∧ w.cell? ⟨g1, 1, none⟩ = some a1 ∧ w.frozen? ⟨g2, 0, none⟩ = false ∧ w.cell? ⟨g2, 0, none⟩ = some c0 ∧ w.frozen? ⟨g2, 1, none⟩ = false ∧ w.cell? ⟨g2, 1, none⟩ = some c1) ∧
    Blk ((((w.setCell ⟨g1, 0, none⟩ u0).setCell ⟨g1, 1, none⟩ u1).setCell ⟨g2, 0, none⟩ v0).setCell ⟨g2, 1, none⟩ v1) g1 t1 #[u0, u1] ∧ Blk ((((w.setCell ⟨g1, 0, none⟩ u0).setCell ⟨g1, 1, none⟩ u1).setCell ⟨g2, 0, none⟩ v0).setCell ⟨g2, 1, none⟩ v1) g2 t2 #[v0, v1] := by
  obtain ⟨p0, p1, p2, p3, hb⟩ := h1.pair u0 u1
  have h2' := (h2.far (p := ⟨g1, 0, none⟩) (by show g2 ≠ g1; omega) u0).far (p := ⟨g1, 1, none⟩) (by show g2 ≠ g1; omega) u1
  obtain ⟨r0, r1, r2, r3, hc⟩ := h2'.pair v0 v1
  exact ⟨⟨p0, p1, p2, p3⟩, ⟨r0, r1, r2, r3⟩, ⟨h1.frozen 1, h1.cell 1, h2.frozen 0, h2.cell 0, h2.frozen 1, h2.cell 1⟩,
    (hb.far (p := ⟨g2, 0, none⟩) hne v0).far (p := ⟨g2, 1, none⟩) hne v1, hc⟩
/-- Four stores beneath 'Below'. -/
theorem below4 {B g1 g2 : Nat} {a w : World} (h : Below B a w) (h1 : B ≤ g1) (h2 : B ≤ g2) (u0 u1 v0 v1 : Value) : Below B a ((((w.setCell ⟨g1, 0, none⟩ u0).setCell ⟨g1, 1, none⟩ u1).setCell ⟨g2, 0, none⟩ v0).setCell ⟨g2, 1, none⟩ v1) :=
  Below.setCell (Below.setCell (Below.setCell (Below.setCell h (p := ⟨g1, 0, none⟩) h1 u0) (p := ⟨g1, 1, none⟩) h1 u1) (p := ⟨g2, 0, none⟩) h2 v0) (p := ⟨g2, 1, none⟩) h2 v1
set_option maxHeartbeats 4000000 in
theorem refSum2_any (s : RS) (w : World) (hsz : s.1.length ≤ 1099511627776) : Calls Try.prog 20 #[rsV s] w fun e w' => e = .returned (getSV (getSum s)) ∧ Gr w w' := by
  have hb0 := ((Blk.new w 40 #[.string ⟨s.1.toArray⟩, .int .i64 (s.2 : Int)]).alloc (.cells #[.string ⟨#[]⟩, .int .i64 0] 40)).alloc (.cells #[.int .u64 0, .int .u64 0] 50)
  have hb1 := (Blk.new (w.alloc (.cells #[.string ⟨s.1.toArray⟩, .int .i64 (s.2 : Int)] 40)) 40 #[.string ⟨#[]⟩, .int .i64 0]).alloc (.cells #[.int .u64 0, .int .u64 0] 50)
  have hb2 := Blk.new ((w.alloc (.cells #[.string ⟨s.1.toArray⟩, .int .i64 (s.2 : Int)] 40)).alloc (.cells #[.string ⟨#[]⟩, .int .i64 0] 40)) 50 #[.int .u64 0, .int .u64 0]
  rw [World.size_alloc] at hb1
  rw [World.size_alloc, World.size_alloc] at hb2
  have hg1 := (((Gr.refl w).alloc (.cells #[.string ⟨s.1.toArray⟩, .int .i64 (s.2 : Int)] 40)).alloc (.cells #[.string ⟨#[]⟩, .int .i64 0] 40)).alloc (.cells #[.int .u64 0, .int .u64 0] 50)
  obtain ⟨w1, hw1⟩ : ∃ w1, w1 = ((w.alloc (.cells #[.string ⟨s.1.toArray⟩, .int .i64 (s.2 : Int)] 40)).alloc (.cells #[.string ⟨#[]⟩, .int .i64 0] 40)).alloc (.cells #[.int .u64 0, .int .u64 0] 50) := ⟨_, rfl⟩
  rw [← hw1] at hb0 hb1 hb2 hg1
  have q0 : w1.cell? ⟨w.heap.size, 0, none⟩ = some (.string ⟨s.1.toArray⟩) := hb0.cell 0
  have q1 : w1.cell? ⟨w.heap.size, 1, none⟩ = some (.int .i64 (s.2 : Int)) := hb0.cell 1
  replace hb0 := Lib.hid hb0
  replace hb1 := Lib.hid hb1
  replace hb2 := Lib.hid hb2
  replace hg1 := Lib.hid hg1
  replace hw1 := Lib.hid hw1
  by_cases he : s.2 = 0
  · have hci : ((s.2 : Int) == 0) = true := by simp [he]
    by_cases hl : s.1.length < 16
    · have hli : (s.1.length : Int) < 16 := by omega
      have hv : Hid (getSum s = (([], 4), (0, 0))) := by unfold getSum; rw [if_pos he, if_pos hl]; exact Lib.hid rfl
      have hfl := Lib.hid (fail_any s 4 w1)
      clear he hl
      go_enter Try.func20, Try.ntmps20
      go_wp2_with fail
      rw [← hw1.out]
      refine hfl.out.mono ?_
      rintro e w2 ⟨rfl, hgr⟩
      obtain ⟨⟨f0, d0, f1, d1⟩, ⟨f2, d2, f3, d3⟩, ⟨f4, d4, f5, d5, f6, d6⟩, hb3, hb4⟩ := pair2 (hb1.out.below hgr hb1.out.lt) (hb2.out.below hgr hb2.out.lt) (by omega) (.string ⟨#[]⟩) (.int .i64 4) (.int .u64 0) (.int .u64 0)
      have z0 := hb3.cell 0
      have z1 := hb3.cell 1
      have z2 := hb4.cell 0
      have z3 := hb4.cell 1
      have hge := Lib.hid (below4 (hg1.out.trans hgr) (Nat.le_succ _) (show w.heap.size ≤ w.heap.size + 1 + 1 by omega) (.string ⟨#[]⟩) (.int .i64 4) (.int .u64 0) (.int .u64 0))
      clear hgr hb3 hb4 hfl
      go_wp2
      refine bodyPost_ret (v := getSV (([], 4), (0, 0))) (by simp [results, Try.results20, go_sem, z0, z1, z2, z3]) rfl ⟨by rw [hv.out], hge.out⟩
    · have hli : ¬ (s.1.length : Int) < 16 := by omega
      obtain ⟨l, er⟩ := s
      have hl16 : 16 ≤ l.length := by show 16 ≤ (l, er).1.length; omega
      obtain rfl : er = 0 := he
      have hli : ¬ (l.length : Int) < 16 := by omega
      have hv : Hid (getSum (l, 0) = (((l.drop 16).take (l.length - 16), 0), (word8 l, word8 (l.drop 8)))) := by
        have hde : (l.drop 16).take (l.length - 16) = l.drop 16 := List.take_of_length_le (by rw [List.length_drop]; exact Nat.le_refl _)
        unfold getSum
        rw [if_pos rfl, if_neg hl, hde]
        exact Lib.hid rfl
      have hget : ∀ k (h : k < l.length), (⟨l.toArray⟩ : ByteArray)[k]'h = l[k] := fun k h => rfl
      clear hl
      go_enter Try.func20, Try.ntmps20
      go_wp2_with fail
      have hb4' := Blk.new w1 50 #[.int .u64 0, .int .u64 0]
      have hg4 := Lib.hid ((Gr.refl w1).alloc (.cells #[.int .u64 0, .int .u64 0] 50))
      have hw1' : Hid ((((w.alloc (.cells #[.string ⟨l.toArray⟩, .int .i64 0] 40)).alloc (.cells #[.string ⟨#[]⟩, .int .i64 0] 40)).alloc (.cells #[.int .u64 0, .int .u64 0] 50)) = w1) := Lib.hid hw1.out.symm
      rw [hw1'.out]
      have hsz1 : w1.heap.size = w.heap.size + 1 + 1 + 1 := by rw [hw1.out]; simp
      rw [hsz1] at hb4'
      have hb4 := Lib.hid hb4'
      replace hsz1 := Lib.hid hsz1
      clear hb4' hw1'
      go_loopw [5] (fun i wr => ∃ k : Nat, k ≤ 8 ∧ i = .int .i64 (k : Int) ∧ Gr w1 wr ∧ Blk wr (w.heap.size + 1 + 1 + 1) 50 #[.int .u64 (n64 (fold8 (l.take k))), .int .u64 (n64 (fold8 ((l.drop 8).take k)))]) (fun i _ => 8 - (intOf i).toNat)
      case atStart => exact ⟨0, by omega, rfl, hg4.out, hb4.out⟩
      case round =>
        obtain ⟨k, hk, rfl, hg, hb⟩ := hrel
        clear hb4 hg4
        have hB := hb0.out.below hg hb0.out.lt
        by_cases h : k < 8
        · have hki : (k : Int) < 8 := by omega
          have hkl : (k : Int) < (l.length : Int) := by omega
          have hkl8 : (8 : Int) + (k : Int) < (l.length : Int) := by omega
          have e1 := Lib.hid (fold8_take l k (by omega))
          have e2 := Lib.hid (fold8_take (l.drop 8) k (by rw [List.length_drop]; omega))
          have e3 : (l.drop 8)[k]'(by rw [List.length_drop]; omega) = l[8 + k]'(by omega) := List.getElem_drop
          rw [e3] at e2
          clear e3
          generalize fold8 (l.take k) = x at *
          generalize fold8 ((l.drop 8).take k) = y at *
          have c0 := hb.cell 0
          have c1 := hb.cell 1
          have f0 := hb.frozen 0
          have f1 := hb.frozen 1
          have q0' : wr.cell? ⟨w.heap.size, 0, none⟩ = some (.string ⟨l.toArray⟩) := hB.cell 0
          have hb' := Lib.hid hb
          have hB' := Lib.hid hB
          have hg' := Lib.hid hg
          clear hb hB hg
          go_wp2
          go_region
          have hbA : Blk (wr.setCell ⟨w.heap.size + 1 + 1 + 1, 0, none⟩ (.int .u64 (n64 (x * 256 + (l[k]'(by omega)).toUInt64)))) (w.heap.size + 1 + 1 + 1) 50 #[.int .u64 (n64 (x * 256 + (l[k]'(by omega)).toUInt64)), .int .u64 (n64 y)] := hb'.out.set_ 0 _
          have hBA := hB'.out.far (p := ⟨w.heap.size + 1 + 1 + 1, 0, none⟩) (by show w.heap.size ≠ w.heap.size + 1 + 1 + 1; omega) (.int .u64 (n64 (x * 256 + (l[k]'(by omega)).toUInt64)))
          have c0A := hbA.cell 0
          have c1A := hbA.cell 1
          have f0A := hbA.frozen 0
          have f1A := hbA.frozen 1
          have q0A : (wr.setCell ⟨w.heap.size + 1 + 1 + 1, 0, none⟩ (.int .u64 (n64 (x * 256 + (l[k]'(by omega)).toUInt64)))).cell? ⟨w.heap.size, 0, none⟩ = some (.string ⟨l.toArray⟩) := hBA.cell 0
          have hbC : Hid (Blk ((wr.setCell ⟨w.heap.size + 1 + 1 + 1, 0, none⟩ (.int .u64 (n64 (x * 256 + (l[k]'(by omega)).toUInt64)))).setCell ⟨w.heap.size + 1 + 1 + 1, 1, none⟩ (.int .u64 (n64 (y * 256 + (l[8 + k]'(by omega)).toUInt64)))) (w.heap.size + 1 + 1 + 1) 50 #[.int .u64 (n64 (x * 256 + (l[k]'(by omega)).toUInt64)), .int .u64 (n64 (y * 256 + (l[8 + k]'(by omega)).toUInt64))]) := Lib.hid (hbA.set_ 1 _)
          have hgC := Lib.hid (Below.setCell (Below.setCell hg'.out (p := ⟨w.heap.size + 1 + 1 + 1, 0, none⟩) (by show w1.heap.size ≤ w.heap.size + 1 + 1 + 1; rw [hsz1.out]; exact Nat.le_refl _) (.int .u64 (n64 (x * 256 + (l[k]'(by omega)).toUInt64)))) (p := ⟨w.heap.size + 1 + 1 + 1, 1, none⟩) (by show w1.heap.size ≤ w.heap.size + 1 + 1 + 1; rw [hsz1.out]; exact Nat.le_refl _) (.int .u64 (n64 (y * 256 + (l[8 + k]'(by omega)).toUInt64))))
          clear hbA hBA c0 c1 f0 f1 q0'
          go_wp2
          have hwr : IntKind.i64.wrap (8 + (k : Int)) = 8 + (k : Int) := by rw [IntKind.wrap_i64]; omega
          have hnn : (0 : Int) ≤ 8 + (k : Int) := by omega
          have htn : (8 + (k : Int)).toNat = 8 + k := by omega
          go_region
          clear hwr
          go_wp2
          go_roundw
          case rel => exact ⟨k + 1, by omega, by go_num, Below.drew (Below.drew hgC.out), by rw [e1.out, e2.out]; exact hbC.out⟩
          case measure => simp [intOf]; omega
        · obtain rfl : k = 8 := by omega
          have hki : ¬ ((8 : Nat) : Int) < 8 := by omega
          have hb1r := hb1.out.below hg hb1.out.lt
          have hb2r := hb2.out.below hg hb2.out.lt
          have e1 : fold8 (l.take 8) = word8 l := rfl
          have e2 : fold8 ((l.drop 8).take 8) = word8 (l.drop 8) := rfl
          rw [e1, e2] at hb
          generalize word8 l = x at *
          generalize word8 (l.drop 8) = y at *
          have c0 := hb.cell 0
          have c1 := hb.cell 1
          have q0' : wr.cell? ⟨w.heap.size, 0, none⟩ = some (.string ⟨l.toArray⟩) := hB.cell 0
          have hg' := Lib.hid (hg1.out.trans hg)
          clear e1 e2
          obtain ⟨⟨f0, d0, f1, d1⟩, ⟨f2, d2, f3, d3⟩, ⟨f4, d4, f5, d5, f6, d6⟩, hb3, hb4⟩ := pair2 hb1r hb2r (by omega) (.string ⟨((l.drop 16).take (l.length - 16)).toArray⟩) (.int .i64 0) (.int .u64 (n64 x)) (.int .u64 (n64 y))
          have z0 := hb3.cell 0
          have z1 := hb3.cell 1
          have z2 := hb4.cell 0
          have z3 := hb4.cell 1
          have hbx := (hb.far (p := ⟨w.heap.size + 1, 0, none⟩) (by show w.heap.size + 1 + 1 + 1 ≠ w.heap.size + 1; omega) (.string ⟨((l.drop 16).take (l.length - 16)).toArray⟩)).far (p := ⟨w.heap.size + 1, 1, none⟩) (by show w.heap.size + 1 + 1 + 1 ≠ w.heap.size + 1; omega) (.int .i64 0)
          have x0 := hbx.cell 0
          have x1 := hbx.cell 1
          have hge := Lib.hid (below4 hg'.out (Nat.le_succ _) (show w.heap.size ≤ w.heap.size + 1 + 1 by omega) (.string ⟨((l.drop 16).take (l.length - 16)).toArray⟩) (.int .i64 0) (.int .u64 (n64 x)) (.int .u64 (n64 y)))
          have hl16i : (16 : Int) ≤ (l.length : Int) := by omega
          clear hb3 hb4 hbx hb hB hb1r hb2r hg
          go_wp2
          go_region
          all_goals
            go_wp2
            refine bodyPost_ret (v := getSV ((((l.drop 16).take (l.length - 16)), 0), (x, y))) (by simp [results, Try.results20, go_sem, z0, z1, z2, z3]) rfl ⟨by rw [hv.out], Below.drew hge.out⟩
  · have hci : ((s.2 : Int) == 0) = false := by simp; omega
    have hv : Hid (getSum s = (s, (0, 0))) := Lib.hid (if_neg he)
    have hbE1 := (Blk.new (w.alloc (.cells #[.string ⟨s.1.toArray⟩, .int .i64 (s.2 : Int)] 40)) 40 #[.string ⟨s.1.toArray⟩, .int .i64 (s.2 : Int)]).alloc (.cells #[.int .u64 0, .int .u64 0] 50)
    have hbE2 := Blk.new ((w.alloc (.cells #[.string ⟨s.1.toArray⟩, .int .i64 (s.2 : Int)] 40)).alloc (.cells #[.string ⟨s.1.toArray⟩, .int .i64 (s.2 : Int)] 40)) 50 #[.int .u64 0, .int .u64 0]
    rw [World.size_alloc] at hbE1
    rw [World.size_alloc, World.size_alloc] at hbE2
    have hge := Lib.hid ((((Gr.refl w).alloc (.cells #[.string ⟨s.1.toArray⟩, .int .i64 (s.2 : Int)] 40)).alloc (.cells #[.string ⟨s.1.toArray⟩, .int .i64 (s.2 : Int)] 40)).alloc (.cells #[.int .u64 0, .int .u64 0] 50))
    have z0 := hbE1.cell 0
    have z1 := hbE1.cell 1
    have z2 := hbE2.cell 0
    have z3 := hbE2.cell 1
    clear he hbE1 hbE2
    go_enter Try.func20, Try.ntmps20
    go_wp2
    refine bodyPost_ret (v := getSV (s, (0, 0))) (by simp [results, Try.results20, go_sem, z0, z1, z2, z3]) rfl ⟨by rw [hv.out], hge.out⟩
end Vint
end Go.Proofs.Ytblafmoidgmnfaa
