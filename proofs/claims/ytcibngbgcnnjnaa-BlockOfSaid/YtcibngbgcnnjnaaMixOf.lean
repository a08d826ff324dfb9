/- The walk of the sum of bytes. No condition but sizes. -/
import Derived.Test.YtcibngbgcnnjnaaMixSum
set_option linter.unusedVariables false
set_option linter.unusedSimpArgs false
namespace Go.Proofs.Ytcibngbgcnnjnaa
open Go Go.RowKit W
namespace Mix
set_option maxRecDepth 100000 in
set_option maxHeartbeats 800000 in
theorem of_any (A : Option Addr) (c : Nat) (l : List UInt8) (w : World) (hs : l.length ≤ 1099511627776) (hc : l.length ≤ c) (hr : RB w w.heap.size A l) :
    Calls Try.prog 30 #[.slice A l.length c] w fun e w' => e = .returned (sumV (of l)) ∧ Gr w w' := by
  obtain ⟨w1, hw1⟩ : ∃ w1, w1 = (w.alloc (.cells #[.int .u64 0, .int .u64 0] 31)).alloc (.cells #[.int .u64 0, .int .u64 0, .bool false, .slice none 0 0, .int .i64 0] 95) := ⟨_, rfl⟩
  have hb0 := (Blk.new w 31 #[.int .u64 0, .int .u64 0]).alloc (.cells #[.int .u64 0, .int .u64 0, .bool false, .slice none 0 0, .int .i64 0] 95)
  have hb1 := Blk.new (w.alloc (.cells #[.int .u64 0, .int .u64 0] 31)) 95 #[.int .u64 0, .int .u64 0, .bool false, .slice none 0 0, .int .i64 0]
  rw [World.size_alloc] at hb1
  have hg1 : Gr w ((w.alloc (.cells #[.int .u64 0, .int .u64 0] 31)).alloc (.cells #[.int .u64 0, .int .u64 0, .bool false, .slice none 0 0, .int .i64 0] 95)) := ((Gr.refl w).alloc _).alloc _
  rw [← hw1] at hb0 hb1 hg1
  have hr1 := (hr.below hg1).more (B' := w.heap.size + 1) (by omega)
  have hwr := Lib.hid (write_any (w.heap.size + 1) [] l A c w1 (.inr ⟨hb1, rfl⟩) hr1 (by simp; omega) hc)
  have hlt0 := hb0.lt
  have hlt1 := hb1.lt
  have hb0' := Lib.hid hb0
  have hg1' := Lib.hid hg1
  have hw1' := Lib.hid hw1
  clear hb0 hb1 hg1 hr hr1 hw1
  go_enter Try.func30, Try.ntmps30
  go_wp2_with fail
  rw [← hw1'.out]
  refine hwr.out.mono ?_
  rintro e w2 ⟨rfl, hm2, hk2⟩
  have hsum := Lib.hid (hsum_any (w.heap.size + 1) ([] ++ l) w2 (.inl hm2) (by simp; omega))
  have hb2 := Lib.hid (hk2.blk hb0'.out (by omega))
  have hbel2 := Lib.hid (Below.trans (show Below w.heap.size w w1 from hg1'.out) (Below.mono (hk2.below (by omega)) (Nat.le_succ _)))
  have hsz2 := hk2.size
  clear hm2 hk2 hwr hw1' hb0' hg1'
  go_wp2_with fail
  refine hsum.out.mono ?_
  rintro e w3 ⟨rfl, hm3, hk3⟩
  have hb3 := hk3.blk hb2.out (by omega)
  have hbel3 := Below.trans hbel2.out (Below.mono (hk3.below (by omega)) (Nat.le_succ _))
  rw [List.nil_append]
  obtain ⟨y, z, hyz⟩ : ∃ y z, of l = (y, z) := ⟨_, _, rfl⟩
  rw [hyz]
  have hyz' := Lib.hid hyz
  have f0 := hb3.frozen 0
  have f1 := hb3.frozen 1
  have e0 := hb3.cell 0
  have e1 := hb3.cell 1
  have hm2 : Blk ((w3.setCell ⟨w.heap.size, 0, none⟩ (.int .u64 (n64 y))).setCell ⟨w.heap.size, 1, none⟩ (.int .u64 (n64 z))) w.heap.size 31 #[.int .u64 (n64 y), .int .u64 (n64 z)] := (hb3.set_ 0 _).set_ 1 _
  have z0 := hm2.cell 0
  have z1 := hm2.cell 1
  have hgf := Lib.hid (Below.setCell (Below.setCell hbel3 (p := ⟨w.heap.size, 0, none⟩) (Nat.le_refl _) (.int .u64 (n64 y))) (p := ⟨w.heap.size, 1, none⟩) (Nat.le_refl _) (.int .u64 (n64 z)))
  clear hyz hm2 hm3 hk3 hb3 hbel3 hb2 hbel2
  go_wp2
  refine bodyPost_ret (v := sumV (y, z)) (by simp [results, Try.results30, go_sem, z0, z1]) rfl ⟨by rw [hyz'.out], hgf.out⟩
end Mix
end Go.Proofs.Ytcibngbgcnnjnaa

