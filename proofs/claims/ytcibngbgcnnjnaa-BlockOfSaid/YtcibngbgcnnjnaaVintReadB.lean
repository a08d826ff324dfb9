/- The walks of a reader of numbers, texts and sums, further. No condition but sizes. -/
import Derived.Test.YtcibngbgcnnjnaaVintRead
import Derived.Shelf.Abstract
set_option linter.unusedVariables false
set_option linter.unusedSimpArgs false
namespace Go.Proofs.Ytcibngbgcnnjnaa
open Go Go.RowKit W
namespace Vint
/-- What 'when' leaves, where the deed told an error, or none. -/
def Whened (g : Nat) (code : Nat) (w w' : World) : Prop := (code = 0 ∧ w' = w) ∨ (code ≠ 0 ∧ w' = (w.setCell ⟨g, 1, none⟩ (.int .i64 (code : Int))).setCell ⟨g, 0, none⟩ (.slice none 0 0))
set_option maxRecDepth 100000 in
set_option maxHeartbeats 2000000 in
theorem when_any (g : Nat) (l : List UInt8) (k : FuncId) (caps : Array Value) (w : World) (hR : Rdr w g (l, 0)) (Post : Nat → List UInt8 → World → Prop) (hent : ∀ w : World, (callFunc k caps).run Try.prog w = .ok (.enter k caps) w)
    (hdo : Calls Try.prog k caps w fun e w' => ∃ (code : Nat) (l' : List UInt8), e = .returned (.int .i64 (code : Int)) ∧ Rdr w' g (l', 0) ∧ Post code l' w') :
    Calls Try.prog 63 #[.pointer (some ⟨g, 0, none⟩), .func (.func k) #[] caps] w fun e w' => e = .returned (.tuple #[]) ∧ ∃ code l' w1, Rdr w1 g (l', 0) ∧ Post code l' w1 ∧ Whened g code w1 w' := by
  obtain ⟨A, c, hb, hr, hcl, hcm⟩ := hR
  have q1 := hb.cell 1
  have hdo' := Lib.hid hdo
  clear hdo
  go_enter Try.func63, Try.ntmps63
  go_wp2_with fail
  refine hdo'.out.mono ?_
  rintro e w1 ⟨code, l', rfl, hR1, hP⟩
  have hR1' := Lib.hid hR1
  have hP' := Lib.hid hP
  obtain ⟨A1, c1, hb1, hr1, _, _⟩ := hR1
  have f0 := hb1.frozen 1
  have f1 : (w1.setCell ⟨g, 1, none⟩ (.int .i64 (code : Int))).frozen? ⟨g, 0, none⟩ = false := (hb1.set_ 1 _).frozen 0
  have d0 : w1.cell? ⟨g, 1, none⟩ = some (.int .i64 0) := hb1.cell 1
  have d1 : (w1.setCell ⟨g, 1, none⟩ (.int .i64 (code : Int))).cell? ⟨g, 0, none⟩ = some (.slice A1 l'.length c1) := (hb1.set_ 1 _).cell 0
  clear hP hb1 hr1 hb hr hdo'
  by_cases hc : code = 0
  · have hci : ((code : Int) == 0) = true := by simp [hc]
    have hfin : Hid (Whened g code w1 w1) := Lib.hid (.inl ⟨hc, rfl⟩)
    clear hc
    go_wp2
    go_end0
    exact ⟨rfl, code, l', w1, hR1'.out, hP'.out, hfin.out⟩
  · have hci : ((code : Int) == 0) = false := by simp; omega
    have hfin : Hid (Whened g code w1 ((w1.setCell ⟨g, 1, none⟩ (.int .i64 (code : Int))).setCell ⟨g, 0, none⟩ (.slice none 0 0))) := Lib.hid (.inr ⟨hc, rfl⟩)
    clear hc
    go_wp2
    go_end0
    exact ⟨rfl, code, l', w1, hR1'.out, hP'.out, hfin.out⟩
theorem Whened.rdr {g code : Nat} {l : List UInt8} {w w' : World} (h : Whened g code w w') (hR : Rdr w g (l, 0)) : Rdr w' g (if code = 0 then l else [], code) := by
  rcases h with ⟨rfl, rfl⟩ | ⟨hc, rfl⟩
  · exact hR
  · obtain ⟨A, c, hb, hr, _, _⟩ := hR
    rw [if_neg hc]
    exact ⟨none, 0, (hb.set_ 1 _).set_ 0 _, RB.nil_, Nat.le_refl _, by unfold maxLen; omega⟩
theorem Whened.kb {g code : Nat} {w w' : World} (h : Whened g code w w') : Kb g w w' := by
  rcases h with ⟨_, rfl⟩ | ⟨_, rfl⟩
  · exact Kb.refl _ _
  · exact ((Kb.refl g w).set 1 _).set 0 _
theorem when_err (g : Nat) (s : RS) (f : Value) (w : World) (hR : Rdr w g s) (h : s.2 ≠ 0) :
    Calls Try.prog 63 #[.pointer (some ⟨g, 0, none⟩), f] w fun e w' => e = .returned (.tuple #[]) ∧ w = w' := by
  obtain ⟨A, c, hb, hr, hcl, hcm⟩ := hR
  have q1 := hb.cell 1
  have hci : ((s.2 : Int) == 0) = false := by simp; omega
  clear h
  go_enter Try.func63, Try.ntmps63
  go_wp2
  exact bodyPost_ret (results_none Try.results63 _ _ _) rfl ⟨rfl, rfl⟩
theorem when_nil (f : Value) (w : World) :
    Calls Try.prog 63 #[.pointer none, f] w fun e w' => e = .returned (.tuple #[]) ∧ w = w' := by
  go_enter Try.func63, Try.ntmps63
  go_wp2
  exact bodyPost_ret (results_none Try.results63 _ _ _) rfl ⟨rfl, rfl⟩
/-! ### the number -/
theorem scan_err (l : List UInt8) (most : Nat) (k : Nat) : ∀ i n, 10 - i ≤ k → (scan l most i n).1 ≠ 0 → (scan l most i n).2.1 = 0 := by
  induction k with
  | zero =>
    intro i n hk h
    rw [scan, dif_neg (by omega)]
  | succ k ih =>
    intro i n hk
    rw [scan]
    split
    · split
      · intro _; rfl
      · split
        · intro _; rfl
        · split
          · exact ih _ _ (by omega)
          · split
            · intro _; rfl
            · split
              · intro _; rfl
              · intro h; exact absurd rfl h
    · intro _; rfl
set_option maxRecDepth 100000 in
set_option maxHeartbeats 2000000 in
theorem num1_any (g b : Nat) (l : List UInt8) (most : UInt64) (w : World) (hR : Rdr w g (l, 0)) (hgb : g < b) (h0 : Blk w b 70 #[.pointer (some ⟨g, 0, none⟩)]) (h1 : Blk w (b + 1) 29 #[.int .u64 (n64 most)]) (h2 : Blk w (b + 1 + 1) 29 #[.int .u64 0]) :
    Calls Try.prog 64 #[.pointer (some ⟨b, 0, none⟩), .pointer (some ⟨b + 1, 0, none⟩), .pointer (some ⟨b + 1 + 1, 0, none⟩)] w fun e w' => ∃ (code : Nat) (l' : List UInt8), e = .returned (.int .i64 (code : Int)) ∧ Rdr w' g (l', 0) ∧
      ((code = (scan l most.toNat 0 0).1 ∧ l' = left l (scan l most.toNat 0 0)) ∧ (Blk w' (b + 1 + 1) 29 #[.int .u64 (n64 (UInt64.ofNat (scan l most.toNat 0 0).2.1))] ∧ ∀ a, Kb g a w → a.heap.size ≤ b → Kb g a w')) := by
  have q0 := h0.cell 0
  have q1 := h1.cell 0
  have hn := Lib.hid (number_any g l most w hR)
  obtain ⟨r, hrr⟩ : ∃ r, r = scan l most.toNat 0 0 := ⟨_, rfl⟩
  rw [← hrr] at hn ⊢
  clear hrr
  obtain ⟨c, v, u⟩ := r
  have h2' := Lib.hid h2
  clear hR h0 h1 h2
  go_enter Try.func64, Try.ntmps64
  go_wp2_with fail
  refine (show Calls _ _ _ _ (fun e w' => e = .returned (.tuple #[.int .u64 (n64 (UInt64.ofNat v)), .int .i64 (c : Int)]) ∧ Rdr w' g (left l (c, v, u), 0) ∧ Kb g w w') from hn.out).mono ?_
  rintro e w1 ⟨rfl, hR1, hk1⟩
  have hb2 := hk1.blk h2'.out (by omega)
  have f0 := hb2.frozen 0
  have d0 := hb2.cell 0
  have hb3 := Lib.hid (hb2.set_ 0 (.int .u64 (n64 (UInt64.ofNat v))))
  have hR2 : Hid (Rdr (w1.setCell ⟨b + 1 + 1, 0, none⟩ (.int .u64 (n64 (UInt64.ofNat v)))) g (left l (c, v, u), 0)) := by
    obtain ⟨A, cc, hb, hr, p1, p2⟩ := hR1
    exact Lib.hid ⟨A, cc, hb.far (p := ⟨b + 1 + 1, 0, none⟩) (by show g ≠ b + 1 + 1; omega) _, hr.setCell (p := ⟨b + 1 + 1, 0, none⟩) (by show g ≤ b + 1 + 1; omega) _, p1, p2⟩
  replace hk1 := Lib.hid hk1
  clear hn hR1 hb2
  go_wp2
  go_ret
  exact ⟨c, _, rfl, hR2.out, ⟨rfl, rfl⟩, hb3.out, fun a ha hs => (ha.trans hk1.out).far (by omega) _ _⟩
theorem enters_num1 (caps : Array Value) (w : World) : (callFunc 64 caps).run Try.prog w = .ok (.enter 64 caps) w :=
  Go.Proofs.enters_of Try.func64 (by kernel_rfl) rfl caps w
theorem get_ok (l : List UInt8) (most : Nat) : get (l, 0) most = ((if (scan l most 0 0).1 = 0 then left l (scan l most 0 0) else [], (scan l most 0 0).1), (scan l most 0 0).2.1) := by
  unfold get left
  rw [if_pos rfl]
  by_cases h : (scan l most 0 0).1 = 0
  · rw [if_pos h, if_pos h, if_pos h, h]
  · rw [if_neg h, if_neg h, scan_err l most 10 0 0 (by omega) h]
theorem get_err {s : RS} (h : s.2 ≠ 0) (most : Nat) : get s most = (s, 0) := by
  unfold get
  rw [if_neg h]
set_option maxRecDepth 100000 in
set_option maxHeartbeats 2000000 in
theorem rnum_any (g : Nat) (s : RS) (most : UInt64) (w : World) (hR : Rdr w g s) :
    Calls Try.prog 55 #[.pointer (some ⟨g, 0, none⟩), .int .u64 (n64 most)] w fun e w' => e = .returned (.int .u64 (n64 (UInt64.ofNat (get s most.toNat).2))) ∧ Rdr w' g (get s most.toNat).1 ∧ Kb g w w' := by
  have hlt := hR.lt
  have hg3 := (((Gr.refl w).alloc (.cells #[.pointer (some ⟨g, 0, none⟩)] 70)).alloc (.cells #[.int .u64 (n64 most)] 29)).alloc (.cells #[.int .u64 0] 29)
  have hR3 := hR.gr hg3
  have h0 := ((Blk.new w 70 #[.pointer (some ⟨g, 0, none⟩)]).alloc (.cells #[.int .u64 (n64 most)] 29)).alloc (.cells #[.int .u64 0] 29)
  have h1 := (Blk.new (w.alloc (.cells #[.pointer (some ⟨g, 0, none⟩)] 70)) 29 #[.int .u64 (n64 most)]).alloc (.cells #[.int .u64 0] 29)
  have h2 := Blk.new ((w.alloc (.cells #[.pointer (some ⟨g, 0, none⟩)] 70)).alloc (.cells #[.int .u64 (n64 most)] 29)) 29 #[.int .u64 0]
  rw [World.size_alloc] at h1
  rw [World.size_alloc, World.size_alloc] at h2
  by_cases he : s.2 = 0
  · obtain ⟨l, er⟩ := s
    obtain rfl : er = 0 := he
    have hn1 := num1_any g w.heap.size l most _ hR3 hlt h0 h1 h2
    have hwh := Lib.hid (when_any g l 64 _ _ hR3 _ (enters_num1 _) hn1)
    have hgo := Lib.hid (get_ok l most.toNat)
    have hg3' := Lib.hid hg3
    clear hR hR3 h0 h1 h2 hg3 hn1
    go_enter Try.func55, Try.ntmps55
    go_wp2_with fail
    refine hwh.out.mono ?_
    rintro e w4 ⟨rfl, code, l', w1, hR1, ⟨⟨hc, hl'⟩, hb, hk⟩, hwd⟩
    have hb4 := hwd.kb.blk hb (by omega)
    have hR4 := Lib.hid (hwd.rdr hR1)
    have hk4 := Lib.hid ((hk w ((Kb.refl g w).gr hg3'.out) (Nat.le_refl _)).trans hwd.kb)
    have d0 := hb4.cell 0
    have f0 := hb4.frozen 0
    have hb5 := hb4.set_ 0 (.int .u64 (n64 (UInt64.ofNat (scan l most.toNat 0 0).2.1)))
    have z0 := hb5.cell 0
    have hfin : Hid (Rdr (w4.setCell ⟨w.heap.size + 1 + 1, 0, none⟩ (.int .u64 (n64 (UInt64.ofNat (scan l most.toNat 0 0).2.1)))) g (get (l, 0) most.toNat).1 ∧ Kb g w (w4.setCell ⟨w.heap.size + 1 + 1, 0, none⟩ (.int .u64 (n64 (UInt64.ofNat (scan l most.toNat 0 0).2.1))))) := by
      rw [hgo.out]
      have h := hR4.out
      rw [hc, hl'] at h
      obtain ⟨A, cc, q1, q2, q3, q4⟩ := h
      exact Lib.hid ⟨⟨A, cc, q1.far (p := ⟨w.heap.size + 1 + 1, 0, none⟩) (by show g ≠ w.heap.size + 1 + 1; omega) _, q2.setCell (p := ⟨w.heap.size + 1 + 1, 0, none⟩) (by show g ≤ w.heap.size + 1 + 1; omega) _, q3, q4⟩, hk4.out.far (by omega) _ _⟩
    have hval : Hid ((get (l, 0) most.toNat).2 = (scan l most.toNat 0 0).2.1) := by rw [hgo.out]; exact Lib.hid rfl
    clear hb hb4 hb5 hk hwd hR1 hc hl' hwh
    go_wp2
    refine bodyPost_ret (v := .int .u64 (n64 (UInt64.ofNat (scan l most.toNat 0 0).2.1))) (by simp [results, Try.results55, go_sem, z0]) rfl ⟨by rw [hval.out], hfin.out⟩
  · obtain ⟨w3, hw3⟩ : ∃ w3, w3 = (((w.alloc (.cells #[.pointer (some ⟨g, 0, none⟩)] 70)).alloc (.cells #[.int .u64 (n64 most)] 29)).alloc (.cells #[.int .u64 0] 29)) := ⟨_, rfl⟩
    rw [← hw3] at hR3 h2 hg3
    replace hw3 := Lib.hid hw3
    have hwh := Lib.hid (when_err g s (.func (.func 64) #[] #[.pointer (some ⟨w.heap.size, 0, none⟩), .pointer (some ⟨w.heap.size + 1, 0, none⟩), .pointer (some ⟨w.heap.size + 1 + 1, 0, none⟩)]) w3 hR3 he)
    rw [get_err he]
    have d0 := h2.cell 0
    have f0 := h2.frozen 0
    have hb5 := h2.set_ 0 (.int .u64 0)
    have z0 := hb5.cell 0
    have hfin : Hid (Rdr (w3.setCell ⟨w.heap.size + 1 + 1, 0, none⟩ (.int .u64 0)) g s ∧ Kb g w (w3.setCell ⟨w.heap.size + 1 + 1, 0, none⟩ (.int .u64 0))) := by
      obtain ⟨A, cc, q1, q2, q3, q4⟩ := hR3
      exact Lib.hid ⟨⟨A, cc, q1.far (p := ⟨w.heap.size + 1 + 1, 0, none⟩) (by show g ≠ w.heap.size + 1 + 1; omega) _, q2.setCell (p := ⟨w.heap.size + 1 + 1, 0, none⟩) (by show g ≤ w.heap.size + 1 + 1; omega) _, q3, q4⟩, ((Kb.refl g w).gr hg3).far (by omega) _ _⟩
    clear hR hR3 h0 h1 h2 hg3 he hb5
    go_enter Try.func55, Try.ntmps55
    go_wp2_with fail
    rw [← hw3.out]
    refine hwh.out.mono ?_
    rintro e w4 ⟨rfl, rfl⟩
    clear hwh
    go_wp2
    refine bodyPost_ret (v := .int .u64 0) (by simp [results, Try.results55, go_sem, z0]) rfl ⟨rfl, hfin.out⟩
end Vint
end Go.Proofs.Ytcibngbgcnnjnaa

