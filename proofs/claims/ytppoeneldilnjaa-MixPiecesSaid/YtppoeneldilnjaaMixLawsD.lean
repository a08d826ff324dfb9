/- The walk of MixPieces, with the contracts of Len and of a hash that nobody made. No condition. -/
import Derived.Test.YtppoeneldilnjaaMixRefOf
import Derived.Test.YtppoeneldilnjaaMixLawsA
set_option linter.unusedVariables false
set_option linter.unusedSimpArgs false
namespace Go.Proofs.Ytppoeneldilnjaa
open Go Go.RowKit W
namespace Mix
theorem hlen_any (g : Nat) (l : List UInt8) (w : World) (h : Met w g l) : Calls Try.prog 13 #[.pointer (some ⟨g, 0, none⟩)] w fun e w' => e = .returned (.int .i64 (l.length : Int)) ∧ w = w' := by
  obtain ⟨A, c, hb, _⟩ := h
  have c4 : w.cell? ⟨g, 4, none⟩ = some (.int .i64 (l.length : Int)) := hb.cell 4
  go_enter Try.func13, Try.ntmps13
  go_wp2
  go_ret
  exact ⟨rfl, rfl⟩
theorem nlen_any (w : World) : Calls Try.prog 13 #[.pointer none] w fun e w' => e = .returned (.int .i64 0) ∧ w = w' := by
  go_enter Try.func13, Try.ntmps13
  go_wp2
  go_ret
  exact ⟨rfl, rfl⟩
theorem nwrite_any (v : Value) (w : World) : Calls Try.prog 10 #[.pointer none, v] w fun e w' => e = .returned (.tuple #[]) ∧ w = w' := by
  go_enter Try.func10, Try.ntmps10
  go_wp2
  exact bodyPost_ret (results_none Try.results10 _ _ _) rfl ⟨rfl, rfl⟩
theorem nsum_any (w : World) : Calls Try.prog 11 #[.pointer none] w fun e w' => e = .returned (sumV (of [])) ∧ Gr w w' := by
  have hb0 := Blk.new w 26 #[.int .u64 0, .int .u64 0]
  have hg0 := (Gr.refl w).alloc (.cells #[.int .u64 0, .int .u64 0] 26)
  have hof := Lib.hid (of_any none 0 [] (w.alloc (.cells #[.int .u64 0, .int .u64 0] 26)) (by simp) (by simp) RB.nil_)
  replace hb0 := Lib.hid hb0
  replace hg0 := Lib.hid hg0
  go_enter Try.func11, Try.ntmps11
  go_wp2_with fail
  refine hof.out.mono ?_
  rintro e w3 ⟨rfl, hgr⟩
  obtain ⟨s1, hs1⟩ : ∃ t, t = of [] := ⟨_, rfl⟩
  rw [← hs1]
  replace hs1 := Lib.hid hs1
  obtain ⟨q0, q1, q2, q3, hb3⟩ := (hb0.out.below hgr hb0.out.lt).pair (.int .u64 (n64 s1.1)) (.int .u64 (n64 s1.2))
  have z0 := hb3.cell 0
  have z1 := hb3.cell 1
  have hge := Lib.hid (Below.setCell (Below.setCell (Gr.trans hg0.out hgr) (p := ⟨w.heap.size, 0, none⟩) (Nat.le_refl _) (.int .u64 (n64 s1.1))) (p := ⟨w.heap.size, 1, none⟩) (Nat.le_refl _) (.int .u64 (n64 s1.2)))
  clear hgr hb3 hof
  go_wp2
  refine bodyPost_ret (v := sumV s1) (by simp [results, Try.results11, go_sem, z0, z1]) rfl ⟨by rw [hs1.out], hge.out⟩
theorem Met.gr {g : Nat} {l : List UInt8} {w w' : World} (h : Met w g l) (hg : Gr w w') : Met w' g l := by
  obtain ⟨A, c, hb, hr, hA, hc, hm⟩ := h
  exact ⟨A, c, hb.below hg hb.lt, (hr.below hg).more hg.size, fun ad e => ⟨(hA ad e).1, Nat.lt_of_lt_of_le (hA ad e).2 hg.size⟩, hc, hm⟩
/-- A slice of byte slices, as it lies. -/
def LB (w : World) (B : Nat) (Ap : Option Addr) (ls : List (List UInt8)) : Prop := ∀ i (h : i < ls.length), ∃ ad A c, Ap = some ad ∧ ad.block < B ∧ w.cell? (ad.add i) = some (.slice A ls[i].length c) ∧ ls[i].length ≤ c ∧ c ≤ maxLen ∧ RB w B A ls[i]
theorem LB.below {w w' : World} {B : Nat} {Ap : Option Addr} {ls : List (List UInt8)} (h : LB w B Ap ls) (hb : Below B w w') : LB w' B Ap ls := fun i hi => by
  obtain ⟨ad, A, c, h1, h2, h3, h4, h5, h6⟩ := h i hi
  refine ⟨ad, A, c, h1, h2, ?_, h4, h5, h6.below hb⟩
  rw [hb.cell (p := ad.add i) (by rw [block_of_add]; exact h2)]
  exact h3
theorem flat_succ {ls : List (List UInt8)} {k : Nat} (h : k < ls.length) : (ls.take (k + 1)).flatten = (ls.take k).flatten ++ ls[k] := by
  rw [List.take_succ_eq_append_getElem h, List.flatten_append]
  simp
set_option maxHeartbeats 4000000 in
theorem mixPieces_walk (Ap : Option Addr) (cp : Nat) (ls : List (List UInt8)) (w : World) (hl : ls.length ≤ 9223372036854775807) (hr : LB w w.heap.size Ap ls) :
    Calls Try.prog 4 #[.slice Ap ls.length cp] w (Ret (eqv (.bool true)) w) := by
  by_cases h20 : 20 < ls.length
  · have haw := Lib.hid (awake_any w)
    clear hr
    go_enter Try.func4, Try.ntmps4
    go_wp2_with (go_at_call 8; refine haw.out.mono ?_; rintro e w' ⟨v, rfl, hv, hg⟩; obtain rfl : v = .bool true := hv)
    go_ret
    exact ⟨_, rfl, rfl, hg⟩
  · have hr' := Lib.hid hr
    clear hr
    obtain ⟨w1, hw1⟩ : ∃ w1, w1 = w.alloc (.cells #[.int .u64 0, .int .u64 0, .bool false, .slice none 0 0, .int .i64 0] 32) := ⟨_, rfl⟩
    have hfr : Hid (Fresh w1 w.heap.size) := Lib.hid (by rw [hw1]; exact Blk.new w _ _)
    have hg1 : Hid (Gr w w1) := Lib.hid (by rw [hw1]; exact (Gr.refl w).alloc _)
    have hsz1 : w.heap.size < w1.heap.size := by rw [hw1, World.size_alloc]; omega
    have hw1' := Lib.hid hw1
    clear hw1
    go_enter Try.func4, Try.ntmps4
    go_wp2
    rw [← hw1'.out]
    go_loopw [4, 5] (fun o i wr => ∃ (k : Nat) (out : List UInt8), k ≤ ls.length ∧ i = .int .i64 k ∧ o = .string ⟨out.toArray⟩ ∧ out.length ≤ 40 * k ∧ Kb w.heap.size w1 wr ∧ (Met wr w.heap.size out ∨ (Fresh wr w.heap.size ∧ out = [])) ∧ Hid (out = (ls.take k).flatten)) (fun _ i _ => ls.length - (intOf i).toNat)
    case atStart => exact ⟨0, [], Nat.zero_le _, rfl, rfl, by simp, Kb.refl _ _, .inr ⟨hfr.out, rfl⟩, Lib.hid rfl⟩
    case round =>
      obtain ⟨k, out, hk, rfl, rfl, hol, hkb, hmet, ho⟩ := hrel
      replace hkb := Lib.hid hkb
      by_cases h : k < ls.length
      · obtain ⟨ad, A, c, hA, hlt, hc, hcl, hcm, hrb⟩ := (hr'.out.below (Below.trans hg1.out (hkb.out.below (Nat.le_of_lt hsz1)))) k h
        subst hA
        have hlast := Lib.hid (flat_succ h)
        generalize ls[k] = b at *
        by_cases hb40 : 40 < b.length
        · have hgr : Gr w wr := Below.trans hg1.out (hkb.out.below (Nat.le_of_lt hsz1))
          have haw := Lib.hid (awake_any wr)
          replace hgr := Lib.hid hgr
          clear hmet hrb ho
          go_wp2_with (go_at_call 8; refine haw.out.mono ?_; rintro e w' ⟨v, rfl, hv, hg⟩; obtain rfl : v = .bool true := hv)
          go_ret
          exact ⟨_, rfl, rfl, hgr.out.trans hg⟩
        · have hb40i : ¬ (40 : Int) < (b.length : Int) := by omega
          have hwr := Lib.hid (write_any w.heap.size out b A c wr hmet hrb (by omega) hcl)
          have hbl : b.length ≤ 40 := by omega
          have hcB := Lib.hid hc
          have hrbB := Lib.hid hrb
          clear hmet hrb
          go_wp2_with fail
          refine hwr.out.mono ?_
          rintro e w2 ⟨rfl, hmet2, hkb2⟩
          have hkbw := Lib.hid (hkb.out.trans hkb2)
          have hb2 : Below w.heap.size wr w2 := hkb2.below (Nat.le_trans (Nat.le_of_lt hsz1) hkb.out.size)
          have hc2 : w2.cell? (ad.add k) = some (.slice A b.length c) := (hb2.cell (p := ad.add k) (by rw [block_of_add]; exact hlt)).trans hcB.out
          have hcv := run_bytes_string (P := Try.prog) w2 22 9 5 Try.underlying22 byteType.1 Try.underlying9 _ A c b.length b rfl (hrbB.out.below hb2)
          obtain ⟨s2, hs2⟩ : ∃ t, t = of (out ++ b) := ⟨_, rfl⟩
          have hsum := Lib.hid (by have h := hsum_any w.heap.size (out ++ b) w2 (.inl hmet2) (by rw [List.length_append]; omega); rw [← hs2] at h; exact h : Calls Try.prog 11 #[.pointer (some ⟨w.heap.size, 0, none⟩)] w2 fun e w' => e = .returned (sumV s2) ∧ Met w' w.heap.size (out ++ b) ∧ Kb w.heap.size w2 w')
          have hro := Lib.hid (fun w3 => (by have h := refOf_any (out ++ b) w3 (by rw [List.length_append]; omega); rw [← hs2] at h; exact h : Calls Try.prog 12 #[str (out ++ b)] w3 fun e' w' => e' = .returned (sumV s2) ∧ Gr w3 w'))
          replace hs2 := Lib.hid hs2
          have hout : Hid (out ++ b = (ls.take (k + 1)).flatten) := Lib.hid (by rw [hlast.out, ← ho.out])
          clear hwr hmet2 hkb2 hb2 ho hc
          go_wp2_with fail
          refine hsum.out.mono ?_
          rintro e w3 ⟨rfl, hmet3, hkb3⟩
          replace hkbw := Lib.hid (hkbw.out.trans hkb3)
          clear hkb3 hsum hcv hc2
          go_wp2_with fail
          refine (hro.out _).mono ?_
          rintro e w4 ⟨rfl, hgr4⟩
          replace hkbw := Lib.hid (hkbw.out.gr hgr4)
          have hmet4 := Lib.hid (hmet3.gr hgr4)
          have hlen := Lib.hid (hlen_any w.heap.size (out ++ b) w4 hmet4.out)
          clear hmet3 hgr4 hro
          go_wp2_with fail
          refine hlen.out.mono ?_
          rintro e w5 ⟨rfl, rfl⟩
          clear hlen
          go_wp2
          go_roundw
          case rel => exact ⟨k + 1, out ++ b, by omega, by go_num, rfl, by rw [List.length_append]; omega, hkbw.out, .inl hmet4.out, hout⟩
          case measure => simp [intOf]; omega
      · have hmet2 : Met (wr.alloc (.cells #[.int .u8 97] 5 (1, 2))) w.heap.size out ∨ (Fresh (wr.alloc (.cells #[.int .u8 97] 5 (1, 2))) w.heap.size ∧ out = []) := by
          rcases hmet with h | ⟨h, e⟩
          · exact .inl (h.gr ((Gr.refl wr).alloc _))
          · exact .inr ⟨Blk.alloc h _, e⟩
        replace hmet2 := Lib.hid hmet2
        replace hkb := Lib.hid (hkb.out.alloc (.cells #[.int .u8 97] 5 (1, 2)))
        clear hmet
        obtain ⟨s2, hs2⟩ : ∃ t, t = of out := ⟨_, rfl⟩
        obtain ⟨s3, hs3⟩ : ∃ t, t = of [] := ⟨_, rfl⟩
        have hro := Lib.hid (fun w3 => (by have h := refOf_any out w3 (by omega); rw [← hs2] at h; exact h : Calls Try.prog 12 #[str out] w3 fun e' w' => e' = .returned (sumV s2) ∧ Gr w3 w'))
        have hrn := Lib.hid (fun w3 => (by have h := refOf_any [] w3 (by simp); rw [← hs3] at h; exact h : Calls Try.prog 12 #[.string ⟨#[]⟩] w3 fun e' w' => e' = .returned (sumV s3) ∧ Gr w3 w'))
        have hns := Lib.hid (fun w3 => (by have h := nsum_any w3; rw [← hs3] at h; exact h : Calls Try.prog 11 #[.pointer none] w3 fun e' w' => e' = .returned (sumV s3) ∧ Gr w3 w'))
        replace hs2 := Lib.hid hs2
        replace hs3 := Lib.hid hs3
        have hcc := Lib.run_convert_bytes_const (P := Try.prog) wr 22 5 #[.int .u8 97] 1 1 Try.underlying22 byteType.1
        go_wp2_with fail
        refine (nwrite_any _ _).mono ?_
        rintro e w5 ⟨rfl, rfl⟩
        have haw := Lib.hid (awake_any (wr.alloc (.cells #[.int .u8 97] 5 (1, 2))))
        go_wp2_with fail
        refine haw.out.mono ?_
        rintro e w6 ⟨v, rfl, hv, hgr⟩
        obtain rfl : v = .bool true := hv
        have hmet3 : Met w6 w.heap.size out ∨ (Fresh w6 w.heap.size ∧ out = []) := by
          rcases hmet2.out with h | ⟨h, e⟩
          · exact .inl (h.gr hgr)
          · exact .inr ⟨Blk.below h hgr (Blk.lt h), e⟩
        have hsum := Lib.hid (by have h := hsum_any w.heap.size out w6 hmet3 (by omega); rw [← hs2.out] at h; exact h : Calls Try.prog 11 #[.pointer (some ⟨w.heap.size, 0, none⟩)] w6 fun e w' => e = .returned (sumV s2) ∧ Met w' w.heap.size out ∧ Kb w.heap.size w6 w')
        replace hkb := Lib.hid (hkb.out.gr hgr)
        clear haw hgr hmet2 hmet3
        go_wp2_with fail
        refine hsum.out.mono ?_
        rintro e w7 ⟨rfl, _, hkb7⟩
        replace hkb := Lib.hid (hkb.out.trans hkb7)
        clear hkb7 hsum
        go_wp2_with fail
        refine (hro.out _).mono ?_
        rintro e w8 ⟨rfl, hgr⟩
        replace hkb := Lib.hid (hkb.out.gr hgr)
        clear hgr hro
        go_wp2_with fail
        refine (hns.out _).mono ?_
        rintro e w9 ⟨rfl, hgr⟩
        replace hkb := Lib.hid (hkb.out.gr hgr)
        clear hgr hns
        go_wp2_with fail
        refine (hrn.out _).mono ?_
        rintro e w10 ⟨rfl, hgr⟩
        replace hkb := Lib.hid (hkb.out.gr hgr)
        clear hgr hrn
        have hnl := Lib.hid (nlen_any w10)
        go_wp2_with fail
        refine hnl.out.mono ?_
        rintro e w11 ⟨rfl, rfl⟩
        go_wp2
        go_ret
        exact ⟨_, rfl, rfl, Below.trans hg1.out (hkb.out.below (Nat.le_of_lt hsz1))⟩
end Mix
end Go.Proofs.Ytppoeneldilnjaa
