/- The walks of the reference's reader: sums, the end. No condition but sizes. -/
import Derived.Test.YtgkcbhijkcbjkaaDoorVintRefD
set_option linter.unusedVariables false
set_option linter.unusedSimpArgs false
namespace Go.Proofs.YtgkcbhijkcbjkaaDoor
open Go Go.RowKit W
namespace Vint
theorem refEnd_any (s : RS) (w : World) : Calls Tryd.prog 29 #[rsV s] w fun e w' => e = .returned (.int .i64 (ended s : Int)) ∧ Gr w w' := by
  have hb0 := Blk.new w 57 #[.string ⟨s.1.toArray⟩, .int .i64 (s.2 : Int)]
  have hg := Lib.hid ((Gr.refl w).alloc (.cells #[.string ⟨s.1.toArray⟩, .int .i64 (s.2 : Int)] 57))
  have q0 := hb0.cell 0
  have q1 := hb0.cell 1
  clear hb0
  by_cases h0 : s.2 = 0
  · have hci : ((s.2 : Int) == 0) = true := by simp [h0]
    by_cases hl : 0 < s.1.length
    · have hli : (0 : Int) < (s.1.length : Int) := by omega
      have hf := Lib.hid (show ended s = 5 from if_pos ⟨h0, hl⟩)
      clear h0 hl
      go_enter Tryd.func29, Tryd.ntmps29
      go_wp2
      go_ret
      rw [hf.out]
      exact ⟨rfl, hg.out⟩
    · have hli : ¬ (0 : Int) < (s.1.length : Int) := by omega
      have hf := Lib.hid (show ended s = s.2 by unfold ended; rw [if_neg (fun h => hl h.2)])
      clear h0 hl
      go_enter Tryd.func29, Tryd.ntmps29
      go_wp2
      go_ret
      rw [hf.out]
      exact ⟨rfl, hg.out⟩
  · have hci : ((s.2 : Int) == 0) = false := by simp; omega
    have hf := Lib.hid (show ended s = s.2 from if_neg (fun h => h0 h.1))
    clear h0
    go_enter Tryd.func29, Tryd.ntmps29
    go_wp2
    go_ret
    rw [hf.out]
    exact ⟨rfl, hg.out⟩
abbrev getSV (r : RS × (UInt64 × UInt64)) : Value := .tuple #[rsV r.1, .agg #[.int .u64 (n64 r.2.1), .int .u64 (n64 r.2.2)]]
theorem fold8_take (l : List UInt8) (k : Nat) (h : k < l.length) : fold8 (l.take (k + 1)) = fold8 (l.take k) * 256 + (l[k]).toUInt64 := by
  rw [List.take_succ_eq_append_getElem h, fold8_snoc]
theorem pair2 {w : World} {g1 g2 : Nat} {t1 t2 : TypeId} {a0 a1 c0 c1 : Value} (h1 : Blk w g1 t1 #[a0, a1]) (h2 : Blk w g2 t2 #[c0, c1]) (hne : g1 ≠ g2) (u0 u1 v0 v1 : Value) :
    (w.frozen? ⟨g1, 0, none⟩ = false ∧ w.cell? ⟨g1, 0, none⟩ = some a0 ∧ (w.setCell ⟨g1, 0, none⟩ u0).frozen? ⟨g1, 1, none⟩ = false ∧ (w.setCell ⟨g1, 0, none⟩ u0).cell? ⟨g1, 1, none⟩ = some a1) ∧
    (((w.setCell ⟨g1, 0, none⟩ u0).setCell ⟨g1, 1, none⟩ u1).frozen? ⟨g2, 0, none⟩ = false ∧ ((w.setCell ⟨g1, 0, none⟩ u0).setCell ⟨g1, 1, none⟩ u1).cell? ⟨g2, 0, none⟩ = some c0 ∧
      (((w.setCell ⟨g1, 0, none⟩ u0).setCell ⟨g1, 1, none⟩ u1).setCell ⟨g2, 0, none⟩ v0).frozen? ⟨g2, 1, none⟩ = false ∧ (((w.setCell ⟨g1, 0, none⟩ u0).setCell ⟨g1, 1, none⟩ u1).setCell ⟨g2, 0, none⟩ v0).cell? ⟨g2, 1, none⟩ = some c1) ∧
    (w.frozen? ⟨g1, 1, none⟩ = false ∧ w.cell? ⟨g1, 1, none⟩ = some a1 ∧ w.frozen? ⟨g2, 0, none⟩ = false ∧ w.cell? ⟨g2, 0, none⟩ = some c0 ∧ w.frozen? ⟨g2, 1, none⟩ = false ∧ w.cell? ⟨g2, 1, none⟩ = some c1) ∧
    Blk ((((w.setCell ⟨g1, 0, none⟩ u0).setCell ⟨g1, 1, none⟩ u1).setCell ⟨g2, 0, none⟩ v0).setCell ⟨g2, 1, none⟩ v1) g1 t1 #[u0, u1] ∧ Blk ((((w.setCell ⟨g1, 0, none⟩ u0).setCell ⟨g1, 1, none⟩ u1).setCell ⟨g2, 0, none⟩ v0).setCell ⟨g2, 1, none⟩ v1) g2 t2 #[v0, v1] := by
  obtain ⟨p0, p1, p2, p3, hb⟩ := h1.pair u0 u1
  have h2' := (h2.far (p := ⟨g1, 0, none⟩) (by show g2 ≠ g1; omega) u0).far (p := ⟨g1, 1, none⟩) (by show g2 ≠ g1; omega) u1
  obtain ⟨r0, r1, r2, r3, hc⟩ := h2'.pair v0 v1
  exact ⟨⟨p0, p1, p2, p3⟩, ⟨r0, r1, r2, r3⟩, ⟨h1.frozen 1, h1.cell 1, h2.frozen 0, h2.cell 0, h2.frozen 1, h2.cell 1⟩,
    (hb.far (p := ⟨g2, 0, none⟩) hne v0).far (p := ⟨g2, 1, none⟩) hne v1, hc⟩
/-- Four stores beneath 'Below'. -/
theorem below4 {B g1 g2 : Nat} {a w : World} (h : Below B a w) (h1 : B ≤ g1) (h2 : B ≤ g2) (u0 u1 v0 v1 : Value) : Below B a ((((w.setCell ⟨g1, 0, none⟩ u0).setCell ⟨g1, 1, none⟩ u1).setCell ⟨g2, 0, none⟩ v0).setCell ⟨g2, 1, none⟩ v1) :=
  Below.setCell (Below.setCell (Below.setCell (Below.setCell h (p := ⟨g1, 0, none⟩) h1 u0) (p := ⟨g1, 1, none⟩) h1 u1) (p := ⟨g2, 0, none⟩) h2 v0) (p := ⟨g2, 1, none⟩) h2 v1
end Vint
end Go.Proofs.YtgkcbhijkcbjkaaDoor

