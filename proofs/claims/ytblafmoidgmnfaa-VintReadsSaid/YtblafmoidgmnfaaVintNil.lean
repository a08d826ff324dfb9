/- The walks of a reader that nobody made. No condition. -/
import Derived.Test.YtblafmoidgmnfaaVintReadE
set_option linter.unusedVariables false
set_option linter.unusedSimpArgs false
namespace Go.Proofs.Ytblafmoidgmnfaa
open Go Go.RowKit W
namespace Vint
theorem nnum_any (most : UInt64) (w : World) : Calls Try.prog 12 #[.pointer none, .int .u64 (n64 most)] w fun e w' => e = .returned (.int .u64 0) ∧ Gr w w' := by
  have hgA := (((Gr.refl w).alloc (.cells #[.pointer none] 32)).alloc (.cells #[.int .u64 (n64 most)] 27)).alloc (.cells #[.int .u64 0] 27)
  have h2 := Blk.new ((w.alloc (.cells #[.pointer none] 32)).alloc (.cells #[.int .u64 (n64 most)] 27)) 27 #[.int .u64 0]
  rw [World.size_alloc, World.size_alloc] at h2
  obtain ⟨wA, hwA⟩ : ∃ wA, wA = ((w.alloc (.cells #[.pointer none] 32)).alloc (.cells #[.int .u64 (n64 most)] 27)).alloc (.cells #[.int .u64 0] 27) := ⟨_, rfl⟩
  rw [← hwA] at hgA h2
  have hwA' := Lib.hid hwA
  have hwh := Lib.hid (fun f => when_nil f wA)
  have hb5 := h2.set_ 0 (.int .u64 0)
  have z0 := hb5.cell 0
  have d0 := h2.cell 0
  have f0 := h2.frozen 0
  have hge := Lib.hid (Below.setCell hgA (p := ⟨w.heap.size + 1 + 1, 0, none⟩) (by show w.heap.size ≤ w.heap.size + 1 + 1; omega) (.int .u64 0))
  clear hwA h2 hb5 hgA
  go_enter Try.func12, Try.ntmps12
  go_wp2_with fail
  rw [← hwA'.out]
  refine (hwh.out _).mono ?_
  rintro e w4 ⟨rfl, rfl⟩
  clear hwh
  go_wp2
  exact bodyPost_ret (v := .int .u64 0) (by simp [results, Try.results12, go_sem, z0]) rfl ⟨rfl, hge.out⟩
theorem nint_any (most : Int) (w : World) (hm : 0 ≤ most ∧ most ≤ 9223372036854775807) : Calls Try.prog 17 #[.pointer none, .int .i64 most] w fun e w' => e = .returned (.int .i64 0) ∧ Gr w w' := by
  obtain ⟨m, rfl⟩ := Int.eq_ofNat_of_zero_le hm.1
  have hn := Lib.hid (nnum_any (UInt64.ofNat m) w)
  have hm0 : (0 : Int) ≤ (m : Int) := by omega
  have hm1 : ¬ (m : Int) < 0 := by omega
  go_enter Try.func17, Try.ntmps17
  go_wp2_with fail
  refine hn.out.mono ?_
  rintro e w4 ⟨rfl, hgr⟩
  replace hgr := Lib.hid hgr
  go_wp2
  go_ret
  exact ⟨rfl, hgr.out⟩
theorem ntext_any (most : Int) (w : World) (hm : 0 ≤ most ∧ most ≤ 9223372036854775807) : Calls Try.prog 19 #[.pointer none, .int .i64 most] w fun e w' => e = .returned (str []) ∧ Gr w w' := by
  have hgA := ((Gr.refl w).alloc (.cells #[.pointer none] 32)).alloc (.cells #[.string ⟨#[]⟩] 9)
  have h2 := Blk.new (w.alloc (.cells #[.pointer none] 32)) 9 #[.string ⟨#[]⟩]
  have h0 := (Blk.new w 32 #[.pointer none]).alloc (.cells #[.string ⟨#[]⟩] 9)
  rw [World.size_alloc] at h2
  obtain ⟨wA, hwA⟩ : ∃ wA, wA = (w.alloc (.cells #[.pointer none] 32)).alloc (.cells #[.string ⟨#[]⟩] 9) := ⟨_, rfl⟩
  rw [← hwA] at hgA h2 h0
  have hwA' := Lib.hid hwA
  have hn := Lib.hid (nint_any most wA hm)
  have hwh := Lib.hid when_nil
  replace hgA := Lib.hid hgA
  replace h2 := Lib.hid h2
  replace h0 := Lib.hid h0
  clear hwA
  go_enter Try.func19, Try.ntmps19
  go_wp2_with fail
  rw [← hwA'.out]
  refine hn.out.mono ?_
  rintro e w1 ⟨rfl, hgr⟩
  have h2b := (h2.out.below hgr h2.out.lt).alloc (.cells #[.int .i64 0] 3)
  have h0b := (h0.out.below hgr h0.out.lt).alloc (.cells #[.int .i64 0] 3)
  have q0 := h0b.cell 0
  have hb5 := h2b.set_ 0 (.string ⟨#[]⟩)
  have z0 := hb5.cell 0
  have d0 := h2b.cell 0
  have f0 := h2b.frozen 0
  have hge := Lib.hid (Below.setCell (Gr.alloc (hgA.out.trans hgr) (.cells #[.int .i64 0] 3)) (p := ⟨w.heap.size + 1, 0, none⟩) (by show w.heap.size ≤ w.heap.size + 1; omega) (.string ⟨#[]⟩))
  replace z0 := Lib.hid z0
  replace d0 := Lib.hid d0
  replace f0 := Lib.hid f0
  clear h2b hb5 hgA hgr hn h2 h0 h0b
  go_wp2_with fail
  refine (hwh.out _ _).mono ?_
  rintro e w4 ⟨rfl, rfl⟩
  clear hwh
  generalize w1.alloc (.cells #[.int .i64 0] 3) = w5 at *
  replace z0 := z0.out
  replace d0 := d0.out
  replace f0 := f0.out
  go_wp2
  exact bodyPost_ret (v := .string ⟨#[]⟩) (by simp [results, Try.results19, go_sem, z0]) rfl ⟨rfl, hge.out⟩
theorem nsum_any (w : World) : Calls Try.prog 21 #[.pointer none] w fun e w' => e = .returned (.agg #[.int .u64 0, .int .u64 0]) ∧ Gr w w' := by
  have hgA := ((Gr.refl w).alloc (.cells #[.pointer none] 32)).alloc (.cells #[.int .u64 0, .int .u64 0] 50)
  have h2 := Blk.new (w.alloc (.cells #[.pointer none] 32)) 50 #[.int .u64 0, .int .u64 0]
  rw [World.size_alloc] at h2
  obtain ⟨wA, hwA⟩ : ∃ wA, wA = (w.alloc (.cells #[.pointer none] 32)).alloc (.cells #[.int .u64 0, .int .u64 0] 50) := ⟨_, rfl⟩
  rw [← hwA] at hgA h2
  have hwA' := Lib.hid hwA
  have hwh := Lib.hid (fun f => when_nil f wA)
  obtain ⟨f0, d0, f1, d1', hb5⟩ := h2.pair (.int .u64 0) (.int .u64 0)
  have d1 := h2.cell 1
  have z0 := hb5.cell 0
  have z1 := hb5.cell 1
  have hge := Lib.hid (Below.setCell (Below.setCell hgA (p := ⟨w.heap.size + 1, 0, none⟩) (by show w.heap.size ≤ w.heap.size + 1; omega) (.int .u64 0)) (p := ⟨w.heap.size + 1, 1, none⟩) (by show w.heap.size ≤ w.heap.size + 1; omega) (.int .u64 0))
  clear hwA h2 hb5 hgA
  go_enter Try.func21, Try.ntmps21
  go_wp2_with fail
  rw [← hwA'.out]
  refine (hwh.out _).mono ?_
  rintro e w4 ⟨rfl, rfl⟩
  clear hwh
  go_wp2
  exact bodyPost_ret (v := .agg #[.int .u64 0, .int .u64 0]) (by simp [results, Try.results21, go_sem, z0, z1]) rfl ⟨rfl, hge.out⟩
end Vint
end Go.Proofs.Ytblafmoidgmnfaa
