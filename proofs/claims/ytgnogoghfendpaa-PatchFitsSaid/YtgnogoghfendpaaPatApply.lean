/- The walk of patch.Apply. No condition but sizes. -/
import Derived.Test.YtgnogoghfendpaaPatEach
set_option linter.unusedVariables false
set_option linter.unusedSimpArgs false
namespace Go.Proofs.Ytgnogoghfendpaa
open Go Go.RowKit W Bl Tk
namespace Pt
/-- What the deed of Apply tells, behind the bytes o. -/
def code1 (o b : List UInt8) (c : Nat) : Nat := if c = 0 ∧ 16384 < o.length + b.length then 5 else c
theorem code1_err {o b : List UInt8} {c : Nat} (h : ¬ c = 0) : code1 o b c = c := by unfold code1; rw [if_neg (fun ⟨x, _⟩ => h x)]
theorem code1_long {o b : List UInt8} {c : Nat} (h : c = 0) (h2 : 16384 < o.length + b.length) : code1 o b c = 5 := by unfold code1; rw [if_pos ⟨h, h2⟩]
theorem code1_ok {o b : List UInt8} {c : Nat} (h : c = 0) (h2 : ¬ 16384 < o.length + b.length) : code1 o b c = 0 := by unfold code1; rw [if_neg (fun ⟨_, x⟩ => h2 x), h]
set_option maxRecDepth 100000 in
set_option maxHeartbeats 4000000 in
theorem apply1_any (n : Nat) (A : Option Addr) (c : Nat) (l : List UInt8) (size : Int) (t : Tok) (o : List UInt8) (A0 : Option Addr) (c0 : Nat) (w : World) (hs : l.length ≤ 1000000) (hc : l.length ≤ c) (hr : RB w n A l) (hf : Fit t) (hol : o.length ≤ 16384)
    (b0 : Blk w n 22 #[.slice A l.length c]) (b1 : Blk w (n + 1) 3 #[.int .i64 size]) (b2 : Blk w (n + 1 + 1) 22 #[.slice A0 o.length c0]) (ho : OB 5 w (n + 1 + 1 + 1) (.slice A0 o.length c0) o) :
    Calls Try.prog 21 #[tokV t, .pointer (some ⟨n, 0, none⟩), .pointer (some ⟨n + 1, 0, none⟩), .pointer (some ⟨n + 1 + 1, 0, none⟩)] w fun e w' =>
      e = .returned (.int .i64 (code1 o (pstep l size t).1 (pstep l size t).2 : Int)) ∧ ∃ A1 c1, Blk w' (n + 1 + 1) 22 #[.slice A1 (o ++ (pstep l size t).1).length c1] ∧ OB 5 w' (n + 1 + 1 + 1) (.slice A1 (o ++ (pstep l size t).1).length c1) (o ++ (pstep l size t).1) ∧ Below (n + 1 + 1) w w' := by
  have hpl := pstep_len l size t
  have hlt := b2.lt
  have hst := Lib.hid (fun w' (h : RB w' w'.heap.size A l) => step_any A c l size t w' hs hc h hf)
  obtain ⟨⟨b, cc⟩, hp⟩ : ∃ r, pstep l size t = r := ⟨_, rfl⟩
  rw [hp] at hst hpl ⊢
  simp only at hpl ⊢
  obtain ⟨cr, hcr⟩ : ∃ cr, code1 o b cc = cr := ⟨_, rfl⟩
  rw [hcr]
  obtain ⟨L, hL⟩ : ∃ L, L = o ++ b := ⟨_, rfl⟩
  rw [← hL]
  have hLh := Lib.hid hL
  clear hL
  obtain ⟨f, m, d⟩ := t
  have a0 := b0.alloc (.cells #[.int .i64 f, .int .i64 m, .string ⟨d.toArray⟩] 35)
  have a1 := b1.alloc (.cells #[.int .i64 f, .int .i64 m, .string ⟨d.toArray⟩] 35)
  have a2 := Lib.hid (b2.alloc (.cells #[.int .i64 f, .int .i64 m, .string ⟨d.toArray⟩] 35))
  have ao := Lib.hid (ho.alloc (.cells #[.int .i64 f, .int .i64 m, .string ⟨d.toArray⟩] 35))
  have x0 := a0.cell 0
  have x1 := a1.cell 0
  have hca := Lib.hid (hst.out (w.alloc (.cells #[.int .i64 f, .int .i64 m, .string ⟨d.toArray⟩] 35)) ((hr.alloc (by omega) _).more (by rw [World.size_alloc]; omega)))
  have hlt' := Lib.hid (show n + 1 + 1 < (w.alloc (.cells #[.int .i64 f, .int .i64 m, .string ⟨d.toArray⟩] 35)).heap.size by rw [World.size_alloc]; omega)
  have hga := Lib.hid (Below.alloc (Below.refl (n + 1 + 1) w) (by omega) (.cells #[.int .i64 f, .int .i64 m, .string ⟨d.toArray⟩] 35))
  clear a0 a1 b0 b1 b2 ho hr hst hp hf
  go_enter Try.func21, Try.ntmps21
  go_wp2_with fail
  go_at_call 11
  refine (hca.out).mono ?_
  rintro e w2 ⟨v, rfl, ⟨A5, c5, rfl, h51, h52, r5⟩, g2⟩
  have r5h := Lib.hid r5
  have b2g := blk_more a2.out g2
  have ho2 := ao.out.below g2
  have gW := Lib.hid (Below.trans hga.out (Below.mono g2 (by have := hlt'.out; omega)))
  clear r5 g2 a2 ao hga hca x0 x1 hlt hlt'
  simp only at h51
  by_cases h0 : cc = 0
  · have hci : ((cc : Int) == 0) = true := by simp [h0]
    by_cases hl : 16384 < o.length + b.length
    · have hli : 16384 - (o.length : Int) < (b.length : Int) := by omega
      have hcd : Hid (cr = 5) := Lib.hid (hcr.symm.trans (code1_long h0 hl))
      clear hcr h0
      have q0 := b2g.cell 0
      have q1 := b2g.frozen 0
      have b2h := Lib.hid b2g
      have ho2h := Lib.hid ho2
      clear b2g ho2
      go_wp2_with (first
        | ((with_reducible refine wpList_isApp (.tmp 25) (.tmp 26) 22 rfl ?_); refine wpList_append_bytes _ rfl (.tmp 25) (.tmp 26) 22 rfl (n + 1 + 1 + 1) 5 Try.underlying22 Bl.byteType _ o rfl (by exact ho2h.out) w2.heap.size _ _ _ b rfl rfl (by exact r5h.out) (by omega) (by have := b2h.out.lt; omega) L hLh.out L.length rfl ?_; intro A9 c9 w9 o9 b9; have b3 := b2h.out.below b9 (by omega); have y0 := b3.cell 0; have y1 := b3.frozen 0; have b4 := Lib.hid (b3.set_ 0 (.slice A9 L.length c9)); have o10 := Lib.hid (OR.setFar (E := 5) (size := 1) o9 (p := ⟨n + 1 + 1, 0, none⟩) (by show n + 1 + 1 < n + 1 + 1 + 1; omega) (.slice A9 L.length c9)); have g10 := Lib.hid ((Below.trans gW.out (Below.mono b9 (by omega))).setCell (p := ⟨n + 1 + 1, 0, none⟩) (by show n + 1 + 1 ≤ n + 1 + 1; omega) (.slice A9 L.length c9)); clear b3 o9 b9 q0 q1 b2h ho2h r5h gW))
      go_ret
      exact ⟨by rw [hcd.out]; rfl, A9, c9, b4.out, o10.out, g10.out⟩
    · have hli : ¬ 16384 - (o.length : Int) < (b.length : Int) := by omega
      obtain rfl : cr = cc := (hcr.symm.trans ((code1_ok h0 hl).trans h0.symm))
      clear hcr h0
      have q0 := b2g.cell 0
      have q1 := b2g.frozen 0
      have b2h := Lib.hid b2g
      have ho2h := Lib.hid ho2
      clear b2g ho2
      go_wp2_with (first
        | ((with_reducible refine wpList_isApp (.tmp 25) (.tmp 26) 22 rfl ?_); refine wpList_append_bytes _ rfl (.tmp 25) (.tmp 26) 22 rfl (n + 1 + 1 + 1) 5 Try.underlying22 Bl.byteType _ o rfl (by exact ho2h.out) w2.heap.size _ _ _ b rfl rfl (by exact r5h.out) (by omega) (by have := b2h.out.lt; omega) L hLh.out L.length rfl ?_; intro A9 c9 w9 o9 b9; have b3 := b2h.out.below b9 (by omega); have y0 := b3.cell 0; have y1 := b3.frozen 0; have b4 := Lib.hid (b3.set_ 0 (.slice A9 L.length c9)); have o10 := Lib.hid (OR.setFar (E := 5) (size := 1) o9 (p := ⟨n + 1 + 1, 0, none⟩) (by show n + 1 + 1 < n + 1 + 1 + 1; omega) (.slice A9 L.length c9)); have g10 := Lib.hid ((Below.trans gW.out (Below.mono b9 (by omega))).setCell (p := ⟨n + 1 + 1, 0, none⟩) (by show n + 1 + 1 ≤ n + 1 + 1; omega) (.slice A9 L.length c9)); clear b3 o9 b9 q0 q1 b2h ho2h r5h gW))
      go_ret
      exact ⟨rfl, A9, c9, b4.out, o10.out, g10.out⟩
  · have hci : ((cc : Int) == 0) = false := by rw [beq_eq_false_iff_ne]; omega
    obtain rfl : cr = cc := (hcr.symm.trans (code1_err h0))
    clear hcr h0
    have q0 := b2g.cell 0
    have q1 := b2g.frozen 0
    have b2h := Lib.hid b2g
    have ho2h := Lib.hid ho2
    clear b2g ho2
    go_wp2_with (first
      | ((with_reducible refine wpList_isApp (.tmp 25) (.tmp 26) 22 rfl ?_); refine wpList_append_bytes _ rfl (.tmp 25) (.tmp 26) 22 rfl (n + 1 + 1 + 1) 5 Try.underlying22 Bl.byteType _ o rfl (by exact ho2h.out) w2.heap.size _ _ _ b rfl rfl (by exact r5h.out) (by omega) (by have := b2h.out.lt; omega) L hLh.out L.length rfl ?_; intro A9 c9 w9 o9 b9; have b3 := b2h.out.below b9 (by omega); have y0 := b3.cell 0; have y1 := b3.frozen 0; have b4 := Lib.hid (b3.set_ 0 (.slice A9 L.length c9)); have o10 := Lib.hid (OR.setFar (E := 5) (size := 1) o9 (p := ⟨n + 1 + 1, 0, none⟩) (by show n + 1 + 1 < n + 1 + 1 + 1; omega) (.slice A9 L.length c9)); have g10 := Lib.hid ((Below.trans gW.out (Below.mono b9 (by omega))).setCell (p := ⟨n + 1 + 1, 0, none⟩) (by show n + 1 + 1 ≤ n + 1 + 1; omega) (.slice A9 L.length c9)); clear b3 o9 b9 q0 q1 b2h ho2h r5h gW))
    go_ret
    exact ⟨rfl, A9, c9, b4.out, o10.out, g10.out⟩
end Pt
end Go.Proofs.Ytgnogoghfendpaa

