/- The walk of token.one: one token, read. No condition. -/
import Derived.Test.YthacnfoeaefeiaaTokPutR
import Derived.Test.YthacnfoeaefeiaaGrowM
set_option linter.unusedVariables false
set_option linter.unusedSimpArgs false
namespace Go.Proofs.Ythacnfoeaefeiaa
open Go Go.RowKit W Vint
namespace Tk
theorem Blk.triple {w : World} {g : Nat} {t : TypeId} {a0 a1 a2 : Value} (h : Blk w g t #[a0, a1, a2]) : w.cell? ⟨g, 0, none⟩ = some a0 ∧ w.cell? ⟨g, 1, none⟩ = some a1 ∧ w.cell? ⟨g, 2, none⟩ = some a2 := ⟨h.cell 0, h.cell 1, h.cell 2⟩
set_option maxHeartbeats 4000000 in
theorem one_any (g : Nat) (s : RS) (w : World) (hR : Rdr w g s) :
    Calls Try.prog 30 #[.pointer (some ⟨g, 0, none⟩)] w fun e w' => e = .returned (tokV (oneT s).2) ∧ Rdr w' g (oneT s).1 ∧ Kb g w w' := by
  have hlt := hR.lt
  have hR1 := hR.gr ((Gr.refl w).alloc (.cells #[.int .i64 0, .int .i64 0, .string ⟨#[]⟩] 39))
  have b1 := Lib.hid (Blk.new w 39 #[.int .i64 0, .int .i64 0, .string ⟨#[]⟩])
  have k1 := Lib.hid (Kb.of_gr (g := g) ((Gr.refl w).alloc (.cells #[.int .i64 0, .int .i64 0, .string ⟨#[]⟩] 39)))
  have hn := Lib.hid (rint_any g s 4097 _ (by omega) hR1)
  have hle := get_le s 4097
  obtain ⟨r, hr⟩ : ∃ r, r = oneT s := ⟨_, rfl⟩
  rw [← hr]
  unfold oneT at hr
  have e4 : (4097 : Int).toNat = 4097 := rfl
  rw [e4] at hn
  clear hR1 hR
  generalize get s 4097 = q at *
  obtain ⟨s2, m⟩ := q
  simp only at hle hr
  go_enter Try.func30, Try.ntmps30
  go_wp2_with fail
  go_at_call 36
  refine hn.out.mono ?_
  rintro e w2 ⟨rfl, R2, q2⟩
  try simp only at R2
  have hs2 := q2.size
  rw [World.size_alloc] at hs2
  have b2 := q2.blk b1.out (by omega)
  have K2 := k1.out.trans q2
  have R3 := R2.gr ((Gr.refl w2).alloc (.cells #[.int .i64 0, .int .i64 (m : Int), .string ⟨#[]⟩] 39))
  have b3 := Lib.hid (b2.alloc (.cells #[.int .i64 0, .int .i64 (m : Int), .string ⟨#[]⟩] 39))
  have K3 := Lib.hid (K2.alloc (.cells #[.int .i64 0, .int .i64 (m : Int), .string ⟨#[]⟩] 39))
  have t3 := Lib.hid (Blk.new w2 39 #[.int .i64 0, .int .i64 (m : Int), .string ⟨#[]⟩])
  clear hn b1 k1 R2 q2 b2 K2
  by_cases hm : 0 < m
  · rw [if_pos hm] at hr
    have hn2 := Lib.hid (rint_any g s2 4097 _ (by omega) R3)
    rw [e4] at hn2
    have hle2 := get_le s2 4097
    generalize get s2 4097 = q at *
    obtain ⟨s3, f⟩ := q
    simp only at hle2 hr
    have hm' : (0 : Int) < (m : Int) := by omega
    have x1 := t3.out.cell 1
    clear R3
    go_wp2_with fail
    go_at_call 36
    refine hn2.out.mono ?_
    rintro e w4 ⟨rfl, R4, q4⟩
    try simp only at R4
    have hs4 := q4.size
    rw [World.size_alloc] at hs4
    have t4 := q4.blk t3.out (by omega)
    have d0 := t4.cell 0
    have f0 := t4.frozen 0
    have t5 := t4.set_ 0 (.int .i64 (f : Int))
    have y0 := t5.cell 0
    have y1 := t5.cell 1
    have y2 := t5.cell 2
    have b5 := Lib.hid ((q4.blk b3.out (by omega)).far (p := ⟨w2.heap.size, 0, none⟩) (by show w.heap.size ≠ w2.heap.size; omega) (.int .i64 (f : Int)))
    have R5 := Lib.hid (R4.far (b := w2.heap.size) (by omega) 0 (.int .i64 (f : Int)))
    have K5 := Lib.hid ((K3.out.trans q4).far (n := w2.heap.size) (by omega) 0 (.int .i64 (f : Int)))
    clear hn2 R4 q4 t4 t5 b3 K3 t3 x1
    subst hr
    go_wp2_with (first
      | (refine wpList_store_blk rfl 39 (.tmp 2) (.tmp 16) rfl w.heap.size #[.int .i64 (f : Int), .int .i64 (m : Int), .string ⟨#[]⟩] rfl rfl 39 #[.int .i64 0, .int .i64 0, .string ⟨#[]⟩] b5.out (tokInfo _ _ _) rfl (by simp [Value.oneCell']) ?_; intro w6 n6 kn hs6; have x0 := n6.cell 0; have x1 := n6.cell 1; have x2 := n6.cell 2; have R6 := Lib.hid (R5.out.other kn (by omega)); have K6 := Lib.hid (K5.out.to (Kb.below kn (by simp; omega)) (Nat.le_refl _)); clear hs6 kn n6))
    exact bodyPost_ret (v := tokV ⟨(f : Int), (m : Int), []⟩) (by simp [results, Try.results30, go_sem, x0, x1, x2]) rfl ⟨rfl, R6.out, K6.out⟩
  · rw [if_neg hm] at hr
    obtain rfl : m = 0 := by omega
    have hn2 := Lib.hid (rtext_any g s2 16384 _ (by omega) R3)
    have e5 : (16384 : Int).toNat = 16384 := rfl
    rw [e5] at hn2
    generalize getText s2 16384 = q at *
    obtain ⟨s3, d⟩ := q
    simp only at hr
    have x1 := t3.out.cell 1
    clear R3
    go_wp2_with fail
    go_at_call 37
    refine hn2.out.mono ?_
    rintro e w4 ⟨rfl, R4, q4⟩
    try simp only at R4
    have hs4 := q4.size
    rw [World.size_alloc] at hs4
    have t4 := q4.blk t3.out (by omega)
    have d2 := t4.cell 2
    have f2 := t4.frozen 2
    have t5 := t4.set_ 2 (str d)
    have y0 := t5.cell 0
    have y1 := t5.cell 1
    have y2 := t5.cell 2
    have b5 := Lib.hid ((q4.blk b3.out (by omega)).far (p := ⟨w2.heap.size, 2, none⟩) (by show w.heap.size ≠ w2.heap.size; omega) (str d))
    have R5 := Lib.hid (R4.far (b := w2.heap.size) (by omega) 2 (str d))
    have K5 := Lib.hid ((K3.out.trans q4).far (n := w2.heap.size) (by omega) 2 (str d))
    clear hn2 R4 q4 t4 t5 b3 K3 t3 x1
    subst hr
    go_wp2_with (first
      | (refine wpList_store_blk rfl 39 (.tmp 2) (.tmp 16) rfl w.heap.size #[.int .i64 0, .int .i64 0, .string ⟨d.toArray⟩] rfl rfl 39 #[.int .i64 0, .int .i64 0, .string ⟨#[]⟩] b5.out (tokInfo _ _ _) rfl (by simp [Value.oneCell']) ?_; intro w6 n6 kn hs6; have x0 := n6.cell 0; have x1 := n6.cell 1; have x2 := n6.cell 2; have R6 := Lib.hid (R5.out.other kn (by omega)); have K6 := Lib.hid (K5.out.to (Kb.below kn (by simp; omega)) (Nat.le_refl _)); clear hs6 kn n6))
    exact bodyPost_ret (v := tokV ⟨0, 0, d⟩) (by simp [results, Try.results30, go_sem, x0, x1, x2]) rfl ⟨rfl, R6.out, K6.out⟩
end Tk
end Go.Proofs.Ythacnfoeaefeiaa
