/- A link and its reference's state, side by side. No condition. -/
import Derived.Test.YtpkbdodclkgjpaaLnkLaw
set_option linter.unusedVariables false
set_option linter.unusedSimpArgs false
namespace Go.Proofs.Ytpkbdodclkgjpaa
open Go Go.RowKit Go.Shelf W
namespace Ln
/-- A way behind j calls. -/
structure Okj (j : Nat) (y : Way) : Prop where
  l : y.l.length ≤ 16
  s : y.s ≤ j
  x : y.x ≤ j
  p : ∀ q ∈ y.l, q.1.length ≤ 100
theorem Okj.ok {j : Nat} {y : Way} (h : Okj j y) (hj : j < 1000000) : Okw y := ⟨h.l, by have := h.s; omega, by have := h.x; omega, fun i hi => h.p _ (List.getElem_mem hi)⟩
theorem Okj.more {j k : Nat} {y : Way} (h : Okj j y) (hk : j ≤ k) : Okj k y := ⟨h.l, Nat.le_trans h.s hk, Nat.le_trans h.x hk, h.p⟩
theorem okj_zero : Okj 0 ⟨[], 0, 0⟩ := ⟨by simp, Nat.le_refl _, Nat.le_refl _, by simp⟩
theorem okj_put {j s : Nat} {y : Way} (h : Okj j y) (hs : s ≤ j + 1) (p : Pk) (hp : p.1.length ≤ 100) : Okj (j + 1) (putW ⟨y.l, s, y.x⟩ p) := by
  have h1 := h.l
  have h2 := h.x
  unfold putW
  simp only
  split
  · rename_i h16
    refine ⟨?_, hs, by simp only; omega, fun q hq => ?_⟩
    · simp only [List.length_append, List.length_eraseIdx, List.length_singleton]
      split <;> omega
    · rcases List.mem_append.1 hq with h | h'
      · exact (‹Okj j y›).p q (List.mem_of_mem_eraseIdx h)
      · obtain rfl := List.mem_singleton.1 h'
        exact hp
  · refine ⟨?_, hs, by simp only; omega, fun q hq => ?_⟩
    · simp only [List.length_append, List.length_singleton]
      omega
    · rcases List.mem_append.1 hq with h | h'
      · exact (‹Okj j y›).p q h
      · obtain rfl := List.mem_singleton.1 h'
        exact hp
theorem okj_erase {j x i : Nat} {y : Way} (h : Okj j y) (hx : x ≤ j + 1) : Okj (j + 1) ⟨y.l.eraseIdx i, y.s, x⟩ := by
  have h1 := h.l
  have h2 := h.s
  refine ⟨?_, by simp only; omega, hx, fun q hq => h.p q (List.mem_of_mem_eraseIdx hq)⟩
  simp only [List.length_eraseIdx]
  split <;> omega
theorem turned_len (b : List UInt8) (a : Int) (m : UInt32) : (Crc.turned b a m).length = b.length := by simp [Crc.turned, Crc.turnTo]
theorem doY_okj {j : Nat} {y : Way} (h : Okj j y) (c : Ac) (hc : c.b.length ≤ 100) : Okj (j + 1) (doY y c).1 := by
  have h1 := h.l
  have h2 := h.s
  have h3 := h.x
  unfold doY
  split
  · exact okj_put h (by omega) _ hc
  · split
    · rename_i hi
      split
      · exact okj_erase h (by omega)
      · split
        · exact okj_erase h (by omega)
        · split
          · exact okj_put (s := y.s) h (by omega) _ (h.p _ (List.getElem_mem hi.1))
          · split
            · exact h.more (by omega)
            · refine ⟨by simpa using h1, by simp only; omega, by simp only; omega, fun q hq => ?_⟩
              rcases List.mem_or_eq_of_mem_set hq with h' | rfl
              · exact h.p q h'
              · rw [turned_len]
                exact h.p _ (List.getElem_mem hi.1)
    · exact h.more (by omega)
theorem doP_okj {j : Nat} {a b : Way} (ha : Okj j a) (hb : Okj j b) (c : Ac) (hc : c.b.length ≤ 100) : Okj (j + 1) (doP a b c).1 ∧ Okj (j + 1) (doP a b c).2.1 := by
  unfold doP
  split
  · exact ⟨doY_okj ha c hc, hb.more (by omega)⟩
  · split
    · exact ⟨ha.more (by omega), doY_okj hb c hc⟩
    · exact ⟨ha.more (by omega), hb.more (by omega)⟩
theorem Lk.off {w w' : World} {g n : Nat} {t : TypeId} {cs : Array Value} {a b : Way} (h : Lk w g a b) (k : Kb n w w') (hb : Blk w n t cs) (h1 : t ≠ 54) (h2 : t ≠ 63) (h3 : t ≠ 5) : Lk w' g a b := by
  have ku : KU w w' := ⟨k.size, fun i ds fr hi => (k.block i (lt_of_heap hi) (fun e => by
    obtain rfl : i = n := by simpa using e
    have := hi.symm.trans hb
    injection this with this
    injection this with _ this _
    exact h3 this.symm)).trans hi⟩
  have ho : ∀ {v rows}, OP w (g + 1) v rows → OP w' (g + 1) v rows := fun {v rows} h => by
    refine World.ownsRow.kept h k ?_
    cases e : v.ownBlock with
    | none => exact .inl rfl
    | some m =>
      refine .inr fun e2 => ?_
      obtain ⟨ds, fr, hm⟩ := op_typ h m e
      obtain rfl : m = n := by simpa using e2
      have := hm.symm.trans hb
      injection this with this
      injection this with _ this _
      exact h2 this.symm
  obtain ⟨ls, v0, r0, v1, r1, hl, y0, y1, hd⟩ := h
  refine ⟨ls, v0, r0, v1, r1, k.blk hl (fun e => ?_), ⟨y0.c0, y0.c1, y0.c2, y0.sh, ho y0.os, y0.pr.ku ku⟩, ⟨y1.c0, y1.c1, y1.c2, y1.sh, ho y1.os, y1.pr.ku ku⟩, hd⟩
  subst e
  have := hl.symm.trans hb
  injection this with this
  injection this with _ this _
  exact h1 this.symm
theorem TS.off {w w' : World} {n : Nat} {t : TypeId} {cs : Array Value} {v : Value} {l : List Pk} (h : TS w v l) (k : Kb n w w') (hb : Blk w n t cs) (h1 : t ≠ 60) : TS w' v l := by
  obtain ⟨A, c, e1, e2, e3, e4⟩ := h
  refine ⟨A, c, e1, e2, e3, fun hl => ?_⟩
  obtain ⟨g, off, ds, fr, f1, f2, f3⟩ := e4 hl
  refine ⟨g, off, ds, fr, f1, (k.block g (lt_of_heap f2) (fun e => ?_)).trans f2, f3⟩
  obtain rfl : g = n := by simpa using e
  have := f2.symm.trans hb
  injection this with this
  injection this with _ this _
  exact h1 this.symm
/-- A link in block g, its reference's state in block gs, behind j calls. -/
structure Two (w : World) (g gs : Nat) (j : Nat) (a b : Way) : Prop where
  lk : Lk w g a b
  st : ∃ A0 A1 c0 c1, Blk w gs 40 (stC (.slice A0 a.l.length c0) (.slice A1 b.l.length c1) a b) ∧ TS w (.slice A0 a.l.length c0) a.l ∧ TS w (.slice A1 b.l.length c1) b.l
  oa : Okj j a
  ob : Okj j b
theorem Two.gr {w w' : World} {g gs j : Nat} {a b : Way} (h : Two w g gs j a b) (k : Gr w w') : Two w' g gs j a b := by
  obtain ⟨A0, A1, c0, c1, h1, h2, h3⟩ := h.st
  exact ⟨h.lk.gr k, ⟨A0, A1, c0, c1, blk_more h1 k, h2.gr k, h3.gr k⟩, h.oa, h.ob⟩
/-- A kind that is none is a Turn. -/
theorem doP_kind (a b : Way) (c : Ac) (h : c.k < 0 ∨ 4 < c.k) : doP a b ⟨4, c.w, c.i, c.t, c.m, c.b⟩ = doP a b c := by
  have e : ∀ y, doY y ⟨4, c.w, c.i, c.t, c.m, c.b⟩ = doY y c := fun y => by
    unfold doY
    simp only
    rw [if_neg (by omega), if_neg (show ¬ c.k = 0 by omega)]
    by_cases hi : c.i.toNat < y.l.length ∧ 0 ≤ c.i
    · rw [dif_pos hi, dif_pos hi, if_neg (by omega), if_neg (by omega), if_neg (by omega), if_neg (show ¬ c.k = 1 by omega), if_neg (show ¬ c.k = 2 by omega), if_neg (show ¬ c.k = 3 by omega)]
    · rw [dif_neg hi, dif_neg hi]
  unfold doP
  simp only [e]
end Ln
end Go.Proofs.Ytpkbdodclkgjpaa

