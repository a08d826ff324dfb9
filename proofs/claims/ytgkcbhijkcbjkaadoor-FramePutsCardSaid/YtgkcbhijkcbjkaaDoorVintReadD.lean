/- The walks of a reader of numbers, texts and sums, further: texts and sums. No condition but sizes. -/
import Derived.Test.YtgkcbhijkcbjkaaDoorVintReadC
set_option linter.unusedVariables false
set_option linter.unusedSimpArgs false
namespace Go.Proofs.YtgkcbhijkcbjkaaDoor
open Go Go.RowKit W
namespace Vint
theorem Rdr.far {w : World} {g b : Nat} {s : RS} (h : Rdr w g s) (hb : g < b) (i : Nat) (u : Value) : Rdr (w.setCell ⟨b, i, none⟩ u) g s := by
  obtain ⟨A, cc, q1, q2, q3, q4⟩ := h
  exact ⟨A, cc, q1.far (p := ⟨b, i, none⟩) (by show g ≠ b; omega) _, q2.setCell (p := ⟨b, i, none⟩) (by show g ≤ b; omega) _, q3, q4⟩
/-- What the deed of reading a text tells and leaves. -/
def cutT (l : List UInt8) (n : Nat) : Nat × List UInt8 × List UInt8 := if l.length < n then (4, l, []) else (0, l.drop n, l.take n)
set_option maxHeartbeats 2000000 in
theorem text1_any (g b0 bn bo : Nat) (l : List UInt8) (n : Nat) (w : World) (hR : Rdr w g (l, 0)) (hgo : g < bo) (hn : bn ≠ bo) (h0 : Blk w b0 48 #[.pointer (some ⟨g, 0, none⟩)]) (h1 : Blk w bn 3 #[.int .i64 (n : Int)]) (h2 : Blk w bo 9 #[.string ⟨#[]⟩]) :
    Calls Tryd.prog 43 #[.pointer (some ⟨b0, 0, none⟩), .pointer (some ⟨bn, 0, none⟩), .pointer (some ⟨bo, 0, none⟩)] w fun e w' => ∃ (code : Nat) (l' : List UInt8), e = .returned (.int .i64 (code : Int)) ∧ Rdr w' g (l', 0) ∧
      ((code = (cutT l n).1 ∧ l' = (cutT l n).2.1) ∧ (Blk w' bo 9 #[str (cutT l n).2.2] ∧ ∀ a, Kb g a w → a.heap.size ≤ bo → Kb g a w')) := by
  have q0 := h0.cell 0
  have q1 := h1.cell 0
  have h2' := Lib.hid h2
  have hR' := Lib.hid hR
  by_cases hc : l.length < n
  · have hn := Lib.hid (bytes_short g l n w hR hc)
    have hcut := Lib.hid (show cutT l n = (4, l, []) from if_pos hc)
    have f0 := h2.frozen 0
    have d0 := h2.cell 0
    have hcv := run_bytes_string (P := Tryd.prog) w 22 9 5 Tryd.underlying22 byteType.1 Tryd.underlying9 0 none 0 0 [] rfl RB.nil_
    clear hR h0 h1 h2 hc
    go_enter Tryd.func43, Tryd.ntmps43
    go_wp2_with fail
    refine hn.out.mono ?_
    rintro e w1 ⟨rfl, rfl⟩
    go_wp2
    go_ret
    rw [hcut.out]
    exact ⟨4, l, rfl, hR'.out.far hgo _ _, ⟨rfl, rfl⟩, h2'.out.set_ 0 _, fun a ha hs => ha.far hs _ _⟩
  · have hn := Lib.hid (bytes_ok g l n w hR hc)
    have hcut := Lib.hid (show cutT l n = (0, l.drop n, l.take n) from if_neg hc)
    have htl : (l.take n).length = n := by rw [List.length_take]; omega
    replace htl := Lib.hid htl
    clear hR h0 h1 h2 hc
    go_enter Tryd.func43, Tryd.ntmps43
    go_wp2_with fail
    refine hn.out.mono ?_
    rintro e w1 ⟨⟨A, c⟩, rfl, hr1, hR1, hk1⟩
    have hb2 := hk1.blk h2'.out (by omega)
    have f0 := hb2.frozen 0
    have d0 := hb2.cell 0
    have hcv := run_bytes_string (P := Tryd.prog) w1 22 9 5 Tryd.underlying22 byteType.1 Tryd.underlying9 g A c n (l.take n) htl.out.symm hr1
    replace hb2 := Lib.hid hb2
    replace hR1 := Lib.hid hR1
    replace hk1 := Lib.hid hk1
    clear hn hr1
    go_wp2
    go_ret
    rw [hcut.out]
    exact ⟨0, _, rfl, hR1.out.far hgo _ _, ⟨rfl, rfl⟩, hb2.out.set_ 0 _, fun a ha hs => (ha.trans hk1.out).far hs _ _⟩
theorem enters_text1 (caps : Array Value) (w : World) : (callFunc 43 caps).run Tryd.prog w = .ok (.enter 43 caps) w :=
  Go.Proofs.enters_of Tryd.func43 (by kernel_rfl) rfl caps w
set_option maxHeartbeats 2000000 in
theorem rtext_any (g : Nat) (s : RS) (most : Int) (w : World) (hm : most ≤ 9223372036854775807) (hR : Rdr w g s) :
    Calls Tryd.prog 23 #[.pointer (some ⟨g, 0, none⟩), .int .i64 most] w fun e w' => e = .returned (str (getText s most.toNat).2) ∧ Rdr w' g (getText s most.toNat).1 ∧ Kb g w w' := by
  have hlt := hR.lt
  have hgA := ((Gr.refl w).alloc (.cells #[.pointer (some ⟨g, 0, none⟩)] 48)).alloc (.cells #[.string ⟨#[]⟩] 9)
  have hRA := hR.gr hgA
  have h0 := (Blk.new w 48 #[.pointer (some ⟨g, 0, none⟩)]).alloc (.cells #[.string ⟨#[]⟩] 9)
  have h2 := Blk.new (w.alloc (.cells #[.pointer (some ⟨g, 0, none⟩)] 48)) 9 #[.string ⟨#[]⟩]
  rw [World.size_alloc] at h2
  obtain ⟨wA, hwA⟩ : ∃ wA, wA = (w.alloc (.cells #[.pointer (some ⟨g, 0, none⟩)] 48)).alloc (.cells #[.string ⟨#[]⟩] 9) := ⟨_, rfl⟩
  rw [← hwA] at hgA hRA h0 h2
  have hwA' := Lib.hid hwA
  have hn := Lib.hid (rint_any g s most wA hm hRA)
  have q0 := h0.cell 0
  have hgt : getText s most.toNat = if (get s most.toNat).1.2 = 0 then (((cutT (get s most.toNat).1.1 (get s most.toNat).2).2.1 |> fun l => if (cutT (get s most.toNat).1.1 (get s most.toNat).2).1 = 0 then l else [], (cutT (get s most.toNat).1.1 (get s most.toNat).2).1), (cutT (get s most.toNat).1.1 (get s most.toNat).2).2.2) else ((get s most.toNat).1, []) := by
    unfold getText cutT
    split
    · split <;> rfl
    · rfl
  generalize get s most.toNat = r at *
  obtain ⟨⟨l1, e1⟩, n⟩ := r
  have h0' := Lib.hid h0
  have h2' := Lib.hid h2
  have hg' := Lib.hid hgA
  have hgt' := Lib.hid hgt
  have hszA : w.heap.size + 1 < wA.heap.size := h2.lt
  clear hR hRA h0 h2 hgA hwA hgt
  go_enter Tryd.func23, Tryd.ntmps23
  go_wp2_with fail
  rw [← hwA'.out]
  refine hn.out.mono ?_
  rintro e w1 ⟨rfl, hR1, hk1⟩
  have hsz1 := hk1.size
  have h0b := Lib.hid ((hk1.blk h0'.out (by omega)).alloc (.cells #[.int .i64 (n : Int)] 3))
  have h2b := Lib.hid ((hk1.blk h2'.out (by omega)).alloc (.cells #[.int .i64 (n : Int)] 3))
  have hnb := Lib.hid (Blk.new w1 3 #[.int .i64 (n : Int)])
  have hR2 := Lib.hid (hR1.gr ((Gr.refl w1).alloc (.cells #[.int .i64 (n : Int)] 3)))
  have hk2 := Lib.hid ((((Kb.refl g w).gr hg'.out).trans hk1).alloc (.cells #[.int .i64 (n : Int)] 3))
  have q0 := h0b.out.cell 0
  clear hR1 hk1 hn h0' h2' hg' hwA'
  by_cases he : e1 = 0
  · subst he
    have ht1 := text1_any g w.heap.size w1.heap.size (w.heap.size + 1) l1 n _ hR2.out (by omega) (by omega) h0b.out hnb.out h2b.out
    have hwh := Lib.hid (when_any g l1 43 _ _ hR2.out _ (enters_text1 _) ht1)
    clear ht1
    go_wp2_with fail
    refine hwh.out.mono ?_
    rintro e w4 ⟨rfl, code, l', w3, hR3, ⟨⟨hc, hl'⟩, hb, hk⟩, hwd⟩
    have hb4 := hwd.kb.blk hb (by omega)
    have hR4 := Lib.hid (hwd.rdr hR3)
    have hk4 := Lib.hid ((hk w hk2.out (by omega)).trans hwd.kb)
    have hv : Hid ((cutT l1 n).1 = code ∧ (cutT l1 n).2.1 = l') := Lib.hid ⟨hc.symm, hl'.symm⟩
    obtain ⟨o, ho⟩ : ∃ o, o = (cutT l1 n).2.2 := ⟨_, rfl⟩
    rw [← ho] at hb4
    have ho' := Lib.hid ho
    have d0 := hb4.cell 0
    have f0 := hb4.frozen 0
    have hb5 := hb4.set_ 0 (str o)
    have z0 := hb5.cell 0
    clear hb hb4 hb5 hk hwd hR3 hc hl' hwh ho
    go_wp2
    refine bodyPost_ret (v := str o) (by simp [results, Tryd.results23, go_sem, z0]) rfl ?_
    rw [hgt'.out, if_pos trivial, hv.out.1, hv.out.2, ← ho'.out]
    refine ⟨rfl, ?_, hk4.out.far (by omega) _ _⟩
    exact hR4.out.far (by omega) _ _
  · have hwh := Lib.hid (when_err g (l1, e1) (.func (.func 43) #[] #[.pointer (some ⟨w.heap.size, 0, none⟩), .pointer (some ⟨w1.heap.size, 0, none⟩), .pointer (some ⟨w.heap.size + 1, 0, none⟩)]) _ hR2.out he)
    have hne := Lib.hid he
    clear he
    go_wp2_with fail
    refine hwh.out.mono ?_
    rintro e w4 ⟨rfl, rfl⟩
    clear hwh
    have d0 := h2b.out.cell 0
    have f0 := h2b.out.frozen 0
    generalize w1.alloc (.cells #[.int .i64 (n : Int)] 3) = w5 at *
    have hb5 := h2b.out.set_ 0 (.string ⟨#[]⟩)
    have z0 := hb5.cell 0
    clear hb5
    go_wp2
    refine bodyPost_ret (v := .string ⟨#[]⟩) (by simp [results, Tryd.results23, go_sem, z0]) rfl ?_
    rw [hgt'.out, if_neg hne.out]
    exact ⟨rfl, hR2.out.far (by omega) _ _, hk2.out.far (by omega) _ _⟩
end Vint
end Go.Proofs.YtgkcbhijkcbjkaaDoor

