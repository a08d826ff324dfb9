/- The walks of the hash's sum, of the sum of bytes, and of the reference's. No condition but sizes. -/
import Derived.Test.YtcibngbgcnnjnaaMixHashW
set_option linter.unusedVariables false
set_option linter.unusedSimpArgs false
namespace Go.Proofs.Ytcibngbgcnnjnaa
open Go Go.RowKit W
namespace Mix
/-- What is put in at the end. -/
def lasts (n : UInt64) : List UInt64 := [n, 18446744073709551615, 0, 0]
theorem closed_lasts (s : St) (n : UInt64) : (lasts n).foldl round s = closed s n := rfl
theorem lasts_step (s : St) (n : UInt64) (k : Nat) (h : k < 4) : ((lasts n).take (k + 1)).foldl round s = round (((lasts n).take k).foldl round s) ((lasts n).getD k 0) := by
  rw [List.take_succ_eq_append_getElem h, List.foldl_append, List.getD_eq_getElem?_getD, List.getElem?_eq_getElem h]
  rfl
/-- A store into a block that is new. -/
theorem kb_far {g b : Nat} {w w' : World} (h : Kb g w w') (hb : w.heap.size ≤ b) (i : Nat) (u : Value) : Kb g w (w'.setCell ⟨b, i, none⟩ u) :=
  ⟨(World.grownBy.os (w' := w') h : _), (World.grownBy.tape (w' := w') h : _), (World.grownBy.output (w' := w') h : _), by rw [World.size_setCell]; exact World.grownBy.size (w' := w') h, fun k hk hne => (Below.heap_setCell w' ⟨b, i, none⟩ u k (by show k ≠ b; omega)).trans (World.grownBy.block (w' := w') h k hk hne)⟩
theorem run_index_ints {P : Program} (w : World) {T E : TypeId} {n : Nat} {kd : IntKind} {i : TypeInfo} (hT : P.underlying T = some (.array n E)) (hE : P.underlying E = some (.int kd)) (hi : P.info? E = some i) (h1 : i.size = 1)
    (cs : Array Value) (k : Nat) (hk : k < n) (v : Value) (hv : cs[k]? = some v) : (Instr.index T (.agg cs) (.int .i64 (k : Int))).run P w = .ok v w := by
  have hk' : (0 : Int) ≤ (k : Int) ∧ (k : Int) < (n : Int) := ⟨by omega, by omega⟩
  have hp := run_part_int (P := P) w hE cs (k * 1) v (by simpa using hv)
  simp only [Instr.index, asIntOf, Sem.run_bind, Sem.run_pure, run_underlying hT, Result.andThen_ok]
  rw [if_pos hk']
  simp only [Sem.run_bind, sizeOf, typeInfo]
  simp [hi, h1]
  simpa using hp
set_option maxRecDepth 100000 in
set_option maxHeartbeats 4000000 in
theorem hsum_any (g : Nat) (l : List UInt8) (w : World) (h : Met w g l ∨ (Fresh w g ∧ l = [])) (hs : l.length ≤ 1099511627776) :
    Calls Try.prog 52 #[.pointer (some ⟨g, 0, none⟩)] w fun e w' => e = .returned (sumV (of l)) ∧ Met w' g l ∧ Kb g w w' := by
  have hgw : g < w.heap.size := (by rcases h with h | ⟨h, _⟩; exact MetN.lt h; exact Blk.lt h)
  have h' : MetN w.heap.size (w.alloc (.cells #[.int .u64 0, .int .u64 0] 31)) g l ∨ (Fresh (w.alloc (.cells #[.int .u64 0, .int .u64 0] 31)) g ∧ l = []) := by
    rcases h with ⟨A, c, h1, h2, h3, h4⟩ | ⟨h, e⟩
    · exact .inl ⟨A, c, h1.alloc _, (h2.alloc (Nat.le_refl _) _).more (by simp), h3, h4⟩
    · exact .inr ⟨Blk.alloc h _, e⟩
  have hbeg := Lib.hid (begin_any w.heap.size g l _ h')
  have hrb := Blk.new w 31 #[.int .u64 0, .int .u64 0]
  have hk0 : Kb g w (w.alloc (.cells #[.int .u64 0, .int .u64 0] 31)) := (Kb.refl g w).alloc _
  clear h h'
  obtain ⟨i0, hi0, hz0, hz1, hz2⟩ := info_parts byteType.2
  go_enter Try.func52, Try.ntmps52
  go_wp2_with fail
  refine hbeg.out.mono ?_
  rintro e w1 ⟨rfl, hm1, hk1⟩
  have hrb1 := hk1.blk hrb (by omega)
  replace hk0 := hk0.trans hk1
  clear hk1 hrb hbeg
  obtain ⟨A, c, hk, hr, hA, hc, hm⟩ := hm1
  have hrl := rest_lt _ l (Nat.le_refl _)
  have hAr : ∀ ad, A = some ad → ad.block ≠ w.heap.size := fun ad h => by have := hA ad h; omega
  obtain ⟨j0, hj0, _, hj1, _⟩ := info_parts (show (Try.prog.info? 29).map (fun i => (i.zero, i.size, i.bytes)) = some (some (.int .u64 0), 1, 8) by kernel_rfl)
  have hglt := hk.lt
  have q0 : w1.cell? ⟨g, 0, none⟩ = some (.int .u64 (n64 (feed start l).1)) := hk.cell 0
  have q1 : w1.cell? ⟨g, 1, none⟩ = some (.int .u64 (n64 (feed start l).2)) := hk.cell 1
  have q3 : ∀ o, (w1.alloc o).cell? ⟨g, 3, none⟩ = some (.slice A (rest l).length c) := fun o => (hk.alloc o).cell 3
  have q4 : ∀ o, (w1.alloc o).cell? ⟨g, 4, none⟩ = some (.int .i64 (l.length : Int)) := fun o => (hk.alloc o).cell 4
  have hof := Lib.hid (show of l = closed (tailed (feed start l) (rest l)) (UInt64.ofNat l.length) from rfl)
  generalize hse : feed start l = s at *
  generalize hre : rest l = r at *
  replace hse := Lib.hid hse
  replace hre := Lib.hid hre
  have hb3 := Blk.new w1 93 #[.int .u64 (n64 s.1), .int .u64 (n64 s.2)]
  have hkA := hk.alloc (.cells #[.int .u64 (n64 s.1), .int .u64 (n64 s.2)] 93)
  have hres := hrb1.alloc (.cells #[.int .u64 (n64 s.1), .int .u64 (n64 s.2)] 93)
  have hw01 : w.heap.size ≤ w1.heap.size := Nat.le_of_lt hrb1.lt
  have hg3 : g < w1.heap.size := hglt
  have hrA := hr.alloc (Nat.le_refl _) (.cells #[.int .u64 (n64 s.1), .int .u64 (n64 s.2)] 93)
  have hkb := hk0.alloc (.cells #[.int .u64 (n64 s.1), .int .u64 (n64 s.2)] 93)
  have hrsz : w.heap.size < w1.heap.size := hrb1.lt
  clear hk hr hk0 hrb1
  by_cases hr0 : r.length = 0
  · have hrn : r = [] := List.eq_nil_of_length_eq_zero hr0
    subst hrn
    have ht : tailed s [] = s := rfl
    rw [ht] at hof
    clear ht
    replace hb3 := Lib.hid hb3
    replace hkA := Lib.hid hkA
    replace hres := Lib.hid hres
    replace hrA := Lib.hid hrA
    replace hkb := Lib.hid hkb
    go_wp2
    generalize w1.alloc (.cells #[.int .u64 (n64 s.1), .int .u64 (n64 s.2)] 93) = wa at *
    go_loopw [34] (fun i wr => ∃ (k : Nat) (st : St), k ≤ 4 ∧ i = .int .i64 k ∧ Blk wr w1.heap.size 93 #[.int .u64 (n64 st.1), .int .u64 (n64 st.2)] ∧ Blk wr g 95 #[.int .u64 (n64 s.1), .int .u64 (n64 s.2), .bool true, .slice A ([]).length c, .int .i64 (l.length : Int)] ∧ Blk wr w.heap.size 31 #[.int .u64 0, .int .u64 0] ∧ RB wr w1.heap.size A ([]) ∧ Kb g w wr ∧ Hid (st = ((lasts (UInt64.ofNat l.length)).take k).foldl round (s))) (fun i _ => 4 - (intOf i).toNat)
    case atStart => exact ⟨0, s, Nat.zero_le _, rfl, hb3.out, hkA.out, hres.out, hrA.out, hkb.out, Lib.hid rfl⟩
    case round =>
      clear hb3 hkA hres hrA hkb
      obtain ⟨k, st, hk, rfl, hb3, hkA, hres, hrA, hkb, hst⟩ := hrel
      by_cases h : k < 4
      · have hstep := lasts_step (s) (UInt64.ofNat l.length) k h
        rw [← hst.out] at hstep
        replace hstep := Lib.hid hstep
        clear hst
        have d0 := hb3.cell 0
        have d1 := hb3.cell 1
        have hblt := hb3.lt
        have hkq : k = 0 ∨ k = 1 ∨ k = 2 ∨ k = 3 := by omega
        rcases hkq with rfl | rfl | rfl | rfl
        · have hc' := sround_any st (UInt64.ofNat l.length) wr
          have hstep2 : ((lasts (UInt64.ofNat l.length)).take (0 + 1)).foldl round (s) = round st (UInt64.ofNat l.length) := hstep.out
          generalize round st (UInt64.ofNat l.length) = st2 at *
          replace hstep2 := Lib.hid hstep2
          have hc := Lib.hid hc'
          clear hc' hstep
          have hix : ∀ w, (Instr.index 109 (.agg #[.int .u64 (n64 (UInt64.ofNat l.length)), .int .u64 18446744073709551615, .int .u64 0, .int .u64 0]) (.int .i64 0)).run Try.prog w = .ok (.int .u64 (n64 (UInt64.ofNat l.length))) w := fun w => run_index_ints w Try.underlying109 Try.underlying29 hj0 hj1 _ 0 (by omega) _ rfl
          go_wp2_with fail
          refine hc.out.mono ?_
          rintro e w' ⟨rfl, hg⟩
          have hb4 := hb3.below hg hblt
          have z0 := hb4.cell 0
          have z1 := hb4.cell 1
          have zf0 := hb4.frozen 0
          have zf1 := hb4.frozen 1
          have n3 : Blk ((w'.setCell ⟨w1.heap.size, 0, none⟩ (.int .u64 (n64 st2.1))).setCell ⟨w1.heap.size, 1, none⟩ (.int .u64 (n64 st2.2))) w1.heap.size 93 #[.int .u64 (n64 st2.1), .int .u64 (n64 st2.2)] := (hb4.set_ 0 _).set_ 1 _
          have nA := ((hkA.below hg hkA.lt).far (p := ⟨w1.heap.size, 0, none⟩) (by show g ≠ w1.heap.size; omega) (.int .u64 (n64 st2.1))).far (p := ⟨w1.heap.size, 1, none⟩) (by show g ≠ w1.heap.size; omega) (.int .u64 (n64 st2.2))
          have nres := ((hres.below hg hres.lt).far (p := ⟨w1.heap.size, 0, none⟩) (by show w.heap.size ≠ w1.heap.size; omega) (.int .u64 (n64 st2.1))).far (p := ⟨w1.heap.size, 1, none⟩) (by show w.heap.size ≠ w1.heap.size; omega) (.int .u64 (n64 st2.2))
          have nrA := ((hrA.below (Below.mono hg (Nat.le_of_lt hblt))).setCell (p := ⟨w1.heap.size, 0, none⟩) (Nat.le_refl _) (.int .u64 (n64 st2.1))).setCell (p := ⟨w1.heap.size, 1, none⟩) (Nat.le_refl _) (.int .u64 (n64 st2.2))
          have nkb := kb_far (kb_far (hkb.gr hg) hw01 0 (.int .u64 (n64 st2.1))) hw01 1 (.int .u64 (n64 st2.2))
          replace n3 := Lib.hid n3
          replace nA := Lib.hid nA
          replace nres := Lib.hid nres
          replace nrA := Lib.hid nrA
          replace nkb := Lib.hid nkb
          clear hb3 hkA hres hrA hkb hg hb4 d0 d1 hc
          go_wp2
          go_roundw
          case rel => first | exact ⟨0 + 1, st2, by omega, by go_num, n3.out, nA.out, nres.out, nrA.out, nkb.out, Lib.hid hstep2.out.symm⟩ | exact ⟨_, _, _, _, _, _, _, _, ⟨0 + 1, st2, by omega, rfl, n3.out, nA.out, nres.out, nrA.out, nkb.out, Lib.hid hstep2.out.symm⟩, rfl⟩
          case measure => simp [intOf]
        · have hc' := sround_any st (18446744073709551615) wr
          rw [show n64 18446744073709551615 = 18446744073709551615 from rfl] at hc'
          have hstep2 : ((lasts (UInt64.ofNat l.length)).take (1 + 1)).foldl round (s) = round st (18446744073709551615) := hstep.out
          generalize round st (18446744073709551615) = st2 at *
          replace hstep2 := Lib.hid hstep2
          have hc := Lib.hid hc'
          clear hc' hstep
          have hix : ∀ w, (Instr.index 109 (.agg #[.int .u64 (n64 (UInt64.ofNat l.length)), .int .u64 18446744073709551615, .int .u64 0, .int .u64 0]) (.int .i64 1)).run Try.prog w = .ok (.int .u64 18446744073709551615) w := fun w => run_index_ints w Try.underlying109 Try.underlying29 hj0 hj1 _ 1 (by omega) _ rfl
          go_wp2_with fail
          refine hc.out.mono ?_
          rintro e w' ⟨rfl, hg⟩
          have hb4 := hb3.below hg hblt
          have z0 := hb4.cell 0
          have z1 := hb4.cell 1
          have zf0 := hb4.frozen 0
          have zf1 := hb4.frozen 1
          have n3 : Blk ((w'.setCell ⟨w1.heap.size, 0, none⟩ (.int .u64 (n64 st2.1))).setCell ⟨w1.heap.size, 1, none⟩ (.int .u64 (n64 st2.2))) w1.heap.size 93 #[.int .u64 (n64 st2.1), .int .u64 (n64 st2.2)] := (hb4.set_ 0 _).set_ 1 _
          have nA := ((hkA.below hg hkA.lt).far (p := ⟨w1.heap.size, 0, none⟩) (by show g ≠ w1.heap.size; omega) (.int .u64 (n64 st2.1))).far (p := ⟨w1.heap.size, 1, none⟩) (by show g ≠ w1.heap.size; omega) (.int .u64 (n64 st2.2))
          have nres := ((hres.below hg hres.lt).far (p := ⟨w1.heap.size, 0, none⟩) (by show w.heap.size ≠ w1.heap.size; omega) (.int .u64 (n64 st2.1))).far (p := ⟨w1.heap.size, 1, none⟩) (by show w.heap.size ≠ w1.heap.size; omega) (.int .u64 (n64 st2.2))
          have nrA := ((hrA.below (Below.mono hg (Nat.le_of_lt hblt))).setCell (p := ⟨w1.heap.size, 0, none⟩) (Nat.le_refl _) (.int .u64 (n64 st2.1))).setCell (p := ⟨w1.heap.size, 1, none⟩) (Nat.le_refl _) (.int .u64 (n64 st2.2))
          have nkb := kb_far (kb_far (hkb.gr hg) hw01 0 (.int .u64 (n64 st2.1))) hw01 1 (.int .u64 (n64 st2.2))
          replace n3 := Lib.hid n3
          replace nA := Lib.hid nA
          replace nres := Lib.hid nres
          replace nrA := Lib.hid nrA
          replace nkb := Lib.hid nkb
          clear hb3 hkA hres hrA hkb hg hb4 d0 d1 hc
          go_wp2
          go_roundw
          case rel => first | exact ⟨1 + 1, st2, by omega, by go_num, n3.out, nA.out, nres.out, nrA.out, nkb.out, Lib.hid hstep2.out.symm⟩ | exact ⟨_, _, _, _, _, _, _, _, ⟨1 + 1, st2, by omega, rfl, n3.out, nA.out, nres.out, nrA.out, nkb.out, Lib.hid hstep2.out.symm⟩, rfl⟩
          case measure => simp [intOf]
        · have hc' := sround_any st (0) wr
          rw [show n64 0 = 0 from rfl] at hc'
          have hstep2 : ((lasts (UInt64.ofNat l.length)).take (2 + 1)).foldl round (s) = round st (0) := hstep.out
          generalize round st (0) = st2 at *
          replace hstep2 := Lib.hid hstep2
          have hc := Lib.hid hc'
          clear hc' hstep
          have hix : ∀ w, (Instr.index 109 (.agg #[.int .u64 (n64 (UInt64.ofNat l.length)), .int .u64 18446744073709551615, .int .u64 0, .int .u64 0]) (.int .i64 2)).run Try.prog w = .ok (.int .u64 0) w := fun w => run_index_ints w Try.underlying109 Try.underlying29 hj0 hj1 _ 2 (by omega) _ rfl
          go_wp2_with fail
          refine hc.out.mono ?_
          rintro e w' ⟨rfl, hg⟩
          have hb4 := hb3.below hg hblt
          have z0 := hb4.cell 0
          have z1 := hb4.cell 1
          have zf0 := hb4.frozen 0
          have zf1 := hb4.frozen 1
          have n3 : Blk ((w'.setCell ⟨w1.heap.size, 0, none⟩ (.int .u64 (n64 st2.1))).setCell ⟨w1.heap.size, 1, none⟩ (.int .u64 (n64 st2.2))) w1.heap.size 93 #[.int .u64 (n64 st2.1), .int .u64 (n64 st2.2)] := (hb4.set_ 0 _).set_ 1 _
          have nA := ((hkA.below hg hkA.lt).far (p := ⟨w1.heap.size, 0, none⟩) (by show g ≠ w1.heap.size; omega) (.int .u64 (n64 st2.1))).far (p := ⟨w1.heap.size, 1, none⟩) (by show g ≠ w1.heap.size; omega) (.int .u64 (n64 st2.2))
          have nres := ((hres.below hg hres.lt).far (p := ⟨w1.heap.size, 0, none⟩) (by show w.heap.size ≠ w1.heap.size; omega) (.int .u64 (n64 st2.1))).far (p := ⟨w1.heap.size, 1, none⟩) (by show w.heap.size ≠ w1.heap.size; omega) (.int .u64 (n64 st2.2))
          have nrA := ((hrA.below (Below.mono hg (Nat.le_of_lt hblt))).setCell (p := ⟨w1.heap.size, 0, none⟩) (Nat.le_refl _) (.int .u64 (n64 st2.1))).setCell (p := ⟨w1.heap.size, 1, none⟩) (Nat.le_refl _) (.int .u64 (n64 st2.2))
          have nkb := kb_far (kb_far (hkb.gr hg) hw01 0 (.int .u64 (n64 st2.1))) hw01 1 (.int .u64 (n64 st2.2))
          replace n3 := Lib.hid n3
          replace nA := Lib.hid nA
          replace nres := Lib.hid nres
          replace nrA := Lib.hid nrA
          replace nkb := Lib.hid nkb
          clear hb3 hkA hres hrA hkb hg hb4 d0 d1 hc
          go_wp2
          go_roundw
          case rel => first | exact ⟨2 + 1, st2, by omega, by go_num, n3.out, nA.out, nres.out, nrA.out, nkb.out, Lib.hid hstep2.out.symm⟩ | exact ⟨_, _, _, _, _, _, _, _, ⟨2 + 1, st2, by omega, rfl, n3.out, nA.out, nres.out, nrA.out, nkb.out, Lib.hid hstep2.out.symm⟩, rfl⟩
          case measure => simp [intOf]
        · have hc' := sround_any st (0) wr
          rw [show n64 0 = 0 from rfl] at hc'
          have hstep2 : ((lasts (UInt64.ofNat l.length)).take (3 + 1)).foldl round (s) = round st (0) := hstep.out
          generalize round st (0) = st2 at *
          replace hstep2 := Lib.hid hstep2
          have hc := Lib.hid hc'
          clear hc' hstep
          have hix : ∀ w, (Instr.index 109 (.agg #[.int .u64 (n64 (UInt64.ofNat l.length)), .int .u64 18446744073709551615, .int .u64 0, .int .u64 0]) (.int .i64 3)).run Try.prog w = .ok (.int .u64 0) w := fun w => run_index_ints w Try.underlying109 Try.underlying29 hj0 hj1 _ 3 (by omega) _ rfl
          go_wp2_with fail
          refine hc.out.mono ?_
          rintro e w' ⟨rfl, hg⟩
          have hb4 := hb3.below hg hblt
          have z0 := hb4.cell 0
          have z1 := hb4.cell 1
          have zf0 := hb4.frozen 0
          have zf1 := hb4.frozen 1
          have n3 : Blk ((w'.setCell ⟨w1.heap.size, 0, none⟩ (.int .u64 (n64 st2.1))).setCell ⟨w1.heap.size, 1, none⟩ (.int .u64 (n64 st2.2))) w1.heap.size 93 #[.int .u64 (n64 st2.1), .int .u64 (n64 st2.2)] := (hb4.set_ 0 _).set_ 1 _
          have nA := ((hkA.below hg hkA.lt).far (p := ⟨w1.heap.size, 0, none⟩) (by show g ≠ w1.heap.size; omega) (.int .u64 (n64 st2.1))).far (p := ⟨w1.heap.size, 1, none⟩) (by show g ≠ w1.heap.size; omega) (.int .u64 (n64 st2.2))
          have nres := ((hres.below hg hres.lt).far (p := ⟨w1.heap.size, 0, none⟩) (by show w.heap.size ≠ w1.heap.size; omega) (.int .u64 (n64 st2.1))).far (p := ⟨w1.heap.size, 1, none⟩) (by show w.heap.size ≠ w1.heap.size; omega) (.int .u64 (n64 st2.2))
          have nrA := ((hrA.below (Below.mono hg (Nat.le_of_lt hblt))).setCell (p := ⟨w1.heap.size, 0, none⟩) (Nat.le_refl _) (.int .u64 (n64 st2.1))).setCell (p := ⟨w1.heap.size, 1, none⟩) (Nat.le_refl _) (.int .u64 (n64 st2.2))
          have nkb := kb_far (kb_far (hkb.gr hg) hw01 0 (.int .u64 (n64 st2.1))) hw01 1 (.int .u64 (n64 st2.2))
          replace n3 := Lib.hid n3
          replace nA := Lib.hid nA
          replace nres := Lib.hid nres
          replace nrA := Lib.hid nrA
          replace nkb := Lib.hid nkb
          clear hb3 hkA hres hrA hkb hg hb4 d0 d1 hc
          go_wp2
          go_roundw
          case rel => first | exact ⟨3 + 1, st2, by omega, by go_num, n3.out, nA.out, nres.out, nrA.out, nkb.out, Lib.hid hstep2.out.symm⟩ | exact ⟨_, _, _, _, _, _, _, _, ⟨3 + 1, st2, by omega, rfl, n3.out, nA.out, nres.out, nrA.out, nkb.out, Lib.hid hstep2.out.symm⟩, rfl⟩
          case measure => simp [intOf]
      · have hk' : k = 4 := by omega
        subst hk'
        have hfin : st = of l := by rw [hst.out, hof.out]; rfl
        have hwr := hkb.size
        have d0 := hb3.cell 0
        have d1 := hb3.cell 1
        have r0 := hres.cell 0
        have r1 := hres.cell 1
        have rf0 := hres.frozen 0
        have rf1 := hres.frozen 1
        have hres2 := (hres.set_ 0 (.int .u64 (n64 st.1))).set_ 1 (.int .u64 (n64 st.2))
        have z0 := hres2.cell 0
        have z1 := hres2.cell 1
        have nA := Lib.hid ((hkA.far (p := ⟨w.heap.size, 0, none⟩) (by show g ≠ w.heap.size; omega) (.int .u64 (n64 st.1))).far (p := ⟨w.heap.size, 1, none⟩) (by show g ≠ w.heap.size; omega) (.int .u64 (n64 st.2)))
        have nrA := Lib.hid (RB.setFar (RB.setFar (hrA.more (B' := wr.heap.size) (Nat.le_of_lt hb3.lt)) (p := ⟨w.heap.size, 0, none⟩) hAr (.int .u64 (n64 st.1))) (p := ⟨w.heap.size, 1, none⟩) hAr (.int .u64 (n64 st.2)))
        have nkb := Lib.hid (kb_far (kb_far hkb (Nat.le_refl _) 0 (.int .u64 (n64 st.1))) (Nat.le_refl _) 1 (.int .u64 (n64 st.2)))
        clear hb3 hkA hres hrA hkb hst hres2
        go_wp2
        rw [← hfin]
        refine bodyPost_ret (v := sumV st) (by simp [results, Try.results52, go_sem, z0, z1]) rfl ⟨rfl, ?_, nkb.out⟩
        unfold Met MetN
        rw [hre.out, hse.out]
        exact ⟨A, c, nA.out, by rw [World.size_setCell, World.size_setCell]; exact nrA.out, fun ad h => by have := hA ad h; rw [World.size_setCell, World.size_setCell]; omega, hc, hm⟩
  · have hr1 : 0 < r.length := by omega
    have h3lt := hb3.lt
    have hglt2 := hkA.lt
    have p0 := hb3.cell 0
    have p1 := hb3.cell 1
    have p3 := hkA.cell 3
    have ht : tailed s r = round s (word r) := if_neg hr0
    rw [ht] at hof
    clear ht
    go_wp2
    clear q0 q1 q3 q4
    generalize w1.alloc (.cells #[.int .u64 (n64 s.1), .int .u64 (n64 s.2)] 93) = wa at *
    refine region_grow (by kernel_rfl) (by kernel_rfl) ?_
    refine GW.p1 (sumV s) rfl trivial (kn0 (t := 3) (c := .pointer (some ⟨w1.heap.size, 0, none⟩)) (by kernel_rfl) rfl) (fun ρ w' hρ hg => by have h0 := (hg.cell (p := ⟨w1.heap.size, 0, none⟩) h3lt).trans p0; have h1 := (hg.cell (p := ⟨w1.heap.size, 1, none⟩) h3lt).trans p1; simp [execOp, hρ, go_sem, h0, h1]) ?_
    refine GW.mv rfl trivial (.inl rfl) (kn0 (t := 0) (c := .pointer (some ⟨g, 0, none⟩)) (by kernel_rfl) rfl) (eqv_lasts _) ?_
    refine GW.p1 (.pointer (some ⟨g, 0, none⟩)) rfl trivial (kn (t := 22) (j := 1) (by kernel_rfl)) (fun ρ w' hρ hg => by simp [execOp, hρ, go_sem]) ?_
    refine GW.p1 (.pointer (some ⟨g, 3, none⟩)) rfl trivial (kn (t := 23) (j := 2) (by kernel_rfl)) (fun ρ w' hρ hg => by simp [execOp, hρ, go_sem]) ?_
    refine GW.p1 (.slice A r.length c) rfl trivial (kn (t := 24) (j := 3) (by kernel_rfl)) (fun ρ w' hρ hg => by have h0 := (hg.cell (p := ⟨g, 3, none⟩) hglt2).trans p3; simp [execOp, hρ, go_sem, h0]) ?_
    refine GW.call1 (eqv (.int .u64 (n64 (word r)))) rfl trivial rfl Try.func61 (by kernel_rfl) (by kernel_rfl) (eqv_lasts _) (kn (t := 25) (j := 4) (by kernel_rfl)) (fun v w' hg hv => ?_) ?_
    · obtain rfl : v = _ := hv
      refine (word_any A c _ r w' (by omega) (hrA.below (Below.mono hg (Nat.le_of_lt h3lt)))).mono ?_
      rintro e w2 ⟨rfl, rfl⟩
      exact ⟨_, rfl, rfl, Gr.refl _⟩
    refine GW.call2 (eqv (sumV (round s (word r)))) rfl trivial rfl Try.func60 (by kernel_rfl) (by kernel_rfl) (eqv_lasts _) (kn (t := 21) (j := 0) (by kernel_rfl)) (kn (t := 26) (j := 5) (by kernel_rfl)) (fun v u w' hg hv hu => ?_) ?_
    · obtain rfl : v = _ := hv
      obtain rfl : u = _ := hu
      refine (sround_any s _ w').mono ?_
      rintro e w2 ⟨rfl, hg2⟩
      exact ⟨_, rfl, rfl, hg2⟩
    refine GW.tail (m := 7) (by simp) (by kernel_rfl) (by kernel_rfl) (fun w' hg => ?_)
    intro v0 _ v1 _ v2 _ v3 _ v4 _ v5 _ v6 h6
    obtain rfl : v6 = (sumV (round s (word r))) := h6
    simp only [GFin, List.take_succ_cons, List.take_zero, List.drop_succ_cons, List.drop_zero, Act.put, List.setIfInBounds_toArray, List.set_cons_succ, List.set_cons_zero]
    generalize round s (word r) = t at *
    have hb3' := hb3.below hg h3lt
    have z0 := hb3'.cell 0
    have z1 := hb3'.cell 1
    have zf0 := hb3'.frozen 0
    have zf1 := hb3'.frozen 1
    have hb4 : Blk ((w'.setCell ⟨w1.heap.size, 0, none⟩ (.int .u64 (n64 t.1))).setCell ⟨w1.heap.size, 1, none⟩ (.int .u64 (n64 t.2))) w1.heap.size 93 #[.int .u64 (n64 t.1), .int .u64 (n64 t.2)] := (hb3'.set_ 0 _).set_ 1 _
    have hkA' := ((hkA.below hg hglt2).far (p := ⟨w1.heap.size, 0, none⟩) (by show g ≠ w1.heap.size; omega) (.int .u64 (n64 t.1))).far (p := ⟨w1.heap.size, 1, none⟩) (by show g ≠ w1.heap.size; omega) (.int .u64 (n64 t.2))
    have hres' := ((hres.below hg hres.lt).far (p := ⟨w1.heap.size, 0, none⟩) (by show w.heap.size ≠ w1.heap.size; omega) (.int .u64 (n64 t.1))).far (p := ⟨w1.heap.size, 1, none⟩) (by show w.heap.size ≠ w1.heap.size; omega) (.int .u64 (n64 t.2))
    have hrA' := ((hrA.below (Below.mono hg (Nat.le_of_lt h3lt))).setCell (p := ⟨w1.heap.size, 0, none⟩) (Nat.le_refl _) (.int .u64 (n64 t.1))).setCell (p := ⟨w1.heap.size, 1, none⟩) (Nat.le_refl _) (.int .u64 (n64 t.2))
    have hkb' := kb_far (kb_far (hkb.gr hg) (by omega) 0 (.int .u64 (n64 t.1))) (by omega) 1 (.int .u64 (n64 t.2))
    have y4 := hkA'.cell 4
    clear hb3 hb3' hkA hres hrA hkb hg p0 p1 p3
    have hb3 := Lib.hid hb4
    have hkA := Lib.hid hkA'
    have hres := Lib.hid hres'
    have hrA := Lib.hid hrA'
    have hkb := Lib.hid hkb'
    clear hb4 hkA' hres' hrA' hkb'
    go_wp2
    clear z0 z1 zf0 zf1 y4
    generalize (w'.setCell ⟨w1.heap.size, 0, none⟩ (.int .u64 (n64 t.1))).setCell ⟨w1.heap.size, 1, none⟩ (.int .u64 (n64 t.2)) = wb at *
    go_loopw [34] (fun i wr => ∃ (k : Nat) (st : St), k ≤ 4 ∧ i = .int .i64 k ∧ Blk wr w1.heap.size 93 #[.int .u64 (n64 st.1), .int .u64 (n64 st.2)] ∧ Blk wr g 95 #[.int .u64 (n64 s.1), .int .u64 (n64 s.2), .bool true, .slice A (r).length c, .int .i64 (l.length : Int)] ∧ Blk wr w.heap.size 31 #[.int .u64 0, .int .u64 0] ∧ RB wr w1.heap.size A (r) ∧ Kb g w wr ∧ Hid (st = ((lasts (UInt64.ofNat l.length)).take k).foldl round (t))) (fun i _ => 4 - (intOf i).toNat)
    case atStart => exact ⟨0, t, Nat.zero_le _, rfl, hb3.out, hkA.out, hres.out, hrA.out, hkb.out, Lib.hid rfl⟩
    case round =>
      clear hb3 hkA hres hrA hkb
      obtain ⟨k, st, hk, rfl, hb3, hkA, hres, hrA, hkb, hst⟩ := hrel
      by_cases h : k < 4
      · have hstep := lasts_step (t) (UInt64.ofNat l.length) k h
        rw [← hst.out] at hstep
        replace hstep := Lib.hid hstep
        clear hst
        have d0 := hb3.cell 0
        have d1 := hb3.cell 1
        have hblt := hb3.lt
        have hkq : k = 0 ∨ k = 1 ∨ k = 2 ∨ k = 3 := by omega
        rcases hkq with rfl | rfl | rfl | rfl
        · have hc' := sround_any st (UInt64.ofNat l.length) wr
          have hstep2 : ((lasts (UInt64.ofNat l.length)).take (0 + 1)).foldl round (t) = round st (UInt64.ofNat l.length) := hstep.out
          generalize round st (UInt64.ofNat l.length) = st2 at *
          replace hstep2 := Lib.hid hstep2
          have hc := Lib.hid hc'
          clear hc' hstep
          have hix : ∀ w, (Instr.index 109 (.agg #[.int .u64 (n64 (UInt64.ofNat l.length)), .int .u64 18446744073709551615, .int .u64 0, .int .u64 0]) (.int .i64 0)).run Try.prog w = .ok (.int .u64 (n64 (UInt64.ofNat l.length))) w := fun w => run_index_ints w Try.underlying109 Try.underlying29 hj0 hj1 _ 0 (by omega) _ rfl
          go_wp2_with fail
          refine hc.out.mono ?_
          rintro e w' ⟨rfl, hg⟩
          have hb4 := hb3.below hg hblt
          have z0 := hb4.cell 0
          have z1 := hb4.cell 1
          have zf0 := hb4.frozen 0
          have zf1 := hb4.frozen 1
          have n3 : Blk ((w'.setCell ⟨w1.heap.size, 0, none⟩ (.int .u64 (n64 st2.1))).setCell ⟨w1.heap.size, 1, none⟩ (.int .u64 (n64 st2.2))) w1.heap.size 93 #[.int .u64 (n64 st2.1), .int .u64 (n64 st2.2)] := (hb4.set_ 0 _).set_ 1 _
          have nA := ((hkA.below hg hkA.lt).far (p := ⟨w1.heap.size, 0, none⟩) (by show g ≠ w1.heap.size; omega) (.int .u64 (n64 st2.1))).far (p := ⟨w1.heap.size, 1, none⟩) (by show g ≠ w1.heap.size; omega) (.int .u64 (n64 st2.2))
          have nres := ((hres.below hg hres.lt).far (p := ⟨w1.heap.size, 0, none⟩) (by show w.heap.size ≠ w1.heap.size; omega) (.int .u64 (n64 st2.1))).far (p := ⟨w1.heap.size, 1, none⟩) (by show w.heap.size ≠ w1.heap.size; omega) (.int .u64 (n64 st2.2))
          have nrA := ((hrA.below (Below.mono hg (Nat.le_of_lt hblt))).setCell (p := ⟨w1.heap.size, 0, none⟩) (Nat.le_refl _) (.int .u64 (n64 st2.1))).setCell (p := ⟨w1.heap.size, 1, none⟩) (Nat.le_refl _) (.int .u64 (n64 st2.2))
          have nkb := kb_far (kb_far (hkb.gr hg) hw01 0 (.int .u64 (n64 st2.1))) hw01 1 (.int .u64 (n64 st2.2))
          replace n3 := Lib.hid n3
          replace nA := Lib.hid nA
          replace nres := Lib.hid nres
          replace nrA := Lib.hid nrA
          replace nkb := Lib.hid nkb
          clear hb3 hkA hres hrA hkb hg hb4 d0 d1 hc
          go_wp2
          go_roundw
          case rel => first | exact ⟨0 + 1, st2, by omega, by go_num, n3.out, nA.out, nres.out, nrA.out, nkb.out, Lib.hid hstep2.out.symm⟩ | exact ⟨_, _, _, _, _, _, _, _, ⟨0 + 1, st2, by omega, rfl, n3.out, nA.out, nres.out, nrA.out, nkb.out, Lib.hid hstep2.out.symm⟩, rfl⟩
          case measure => simp [intOf]
        · have hc' := sround_any st (18446744073709551615) wr
          rw [show n64 18446744073709551615 = 18446744073709551615 from rfl] at hc'
          have hstep2 : ((lasts (UInt64.ofNat l.length)).take (1 + 1)).foldl round (t) = round st (18446744073709551615) := hstep.out
          generalize round st (18446744073709551615) = st2 at *
          replace hstep2 := Lib.hid hstep2
          have hc := Lib.hid hc'
          clear hc' hstep
          have hix : ∀ w, (Instr.index 109 (.agg #[.int .u64 (n64 (UInt64.ofNat l.length)), .int .u64 18446744073709551615, .int .u64 0, .int .u64 0]) (.int .i64 1)).run Try.prog w = .ok (.int .u64 18446744073709551615) w := fun w => run_index_ints w Try.underlying109 Try.underlying29 hj0 hj1 _ 1 (by omega) _ rfl
          go_wp2_with fail
          refine hc.out.mono ?_
          rintro e w' ⟨rfl, hg⟩
          have hb4 := hb3.below hg hblt
          have z0 := hb4.cell 0
          have z1 := hb4.cell 1
          have zf0 := hb4.frozen 0
          have zf1 := hb4.frozen 1
          have n3 : Blk ((w'.setCell ⟨w1.heap.size, 0, none⟩ (.int .u64 (n64 st2.1))).setCell ⟨w1.heap.size, 1, none⟩ (.int .u64 (n64 st2.2))) w1.heap.size 93 #[.int .u64 (n64 st2.1), .int .u64 (n64 st2.2)] := (hb4.set_ 0 _).set_ 1 _
          have nA := ((hkA.below hg hkA.lt).far (p := ⟨w1.heap.size, 0, none⟩) (by show g ≠ w1.heap.size; omega) (.int .u64 (n64 st2.1))).far (p := ⟨w1.heap.size, 1, none⟩) (by show g ≠ w1.heap.size; omega) (.int .u64 (n64 st2.2))
          have nres := ((hres.below hg hres.lt).far (p := ⟨w1.heap.size, 0, none⟩) (by show w.heap.size ≠ w1.heap.size; omega) (.int .u64 (n64 st2.1))).far (p := ⟨w1.heap.size, 1, none⟩) (by show w.heap.size ≠ w1.heap.size; omega) (.int .u64 (n64 st2.2))
          have nrA := ((hrA.below (Below.mono hg (Nat.le_of_lt hblt))).setCell (p := ⟨w1.heap.size, 0, none⟩) (Nat.le_refl _) (.int .u64 (n64 st2.1))).setCell (p := ⟨w1.heap.size, 1, none⟩) (Nat.le_refl _) (.int .u64 (n64 st2.2))
          have nkb := kb_far (kb_far (hkb.gr hg) hw01 0 (.int .u64 (n64 st2.1))) hw01 1 (.int .u64 (n64 st2.2))
          replace n3 := Lib.hid n3
          replace nA := Lib.hid nA
          replace nres := Lib.hid nres
          replace nrA := Lib.hid nrA
          replace nkb := Lib.hid nkb
          clear hb3 hkA hres hrA hkb hg hb4 d0 d1 hc
          go_wp2
          go_roundw
          case rel => first | exact ⟨1 + 1, st2, by omega, by go_num, n3.out, nA.out, nres.out, nrA.out, nkb.out, Lib.hid hstep2.out.symm⟩ | exact ⟨_, _, _, _, _, _, _, _, ⟨1 + 1, st2, by omega, rfl, n3.out, nA.out, nres.out, nrA.out, nkb.out, Lib.hid hstep2.out.symm⟩, rfl⟩
          case measure => simp [intOf]
        · have hc' := sround_any st (0) wr
          rw [show n64 0 = 0 from rfl] at hc'
          have hstep2 : ((lasts (UInt64.ofNat l.length)).take (2 + 1)).foldl round (t) = round st (0) := hstep.out
          generalize round st (0) = st2 at *
          replace hstep2 := Lib.hid hstep2
          have hc := Lib.hid hc'
          clear hc' hstep
          have hix : ∀ w, (Instr.index 109 (.agg #[.int .u64 (n64 (UInt64.ofNat l.length)), .int .u64 18446744073709551615, .int .u64 0, .int .u64 0]) (.int .i64 2)).run Try.prog w = .ok (.int .u64 0) w := fun w => run_index_ints w Try.underlying109 Try.underlying29 hj0 hj1 _ 2 (by omega) _ rfl
          go_wp2_with fail
          refine hc.out.mono ?_
          rintro e w' ⟨rfl, hg⟩
          have hb4 := hb3.below hg hblt
          have z0 := hb4.cell 0
          have z1 := hb4.cell 1
          have zf0 := hb4.frozen 0
          have zf1 := hb4.frozen 1
          have n3 : Blk ((w'.setCell ⟨w1.heap.size, 0, none⟩ (.int .u64 (n64 st2.1))).setCell ⟨w1.heap.size, 1, none⟩ (.int .u64 (n64 st2.2))) w1.heap.size 93 #[.int .u64 (n64 st2.1), .int .u64 (n64 st2.2)] := (hb4.set_ 0 _).set_ 1 _
          have nA := ((hkA.below hg hkA.lt).far (p := ⟨w1.heap.size, 0, none⟩) (by show g ≠ w1.heap.size; omega) (.int .u64 (n64 st2.1))).far (p := ⟨w1.heap.size, 1, none⟩) (by show g ≠ w1.heap.size; omega) (.int .u64 (n64 st2.2))
          have nres := ((hres.below hg hres.lt).far (p := ⟨w1.heap.size, 0, none⟩) (by show w.heap.size ≠ w1.heap.size; omega) (.int .u64 (n64 st2.1))).far (p := ⟨w1.heap.size, 1, none⟩) (by show w.heap.size ≠ w1.heap.size; omega) (.int .u64 (n64 st2.2))
          have nrA := ((hrA.below (Below.mono hg (Nat.le_of_lt hblt))).setCell (p := ⟨w1.heap.size, 0, none⟩) (Nat.le_refl _) (.int .u64 (n64 st2.1))).setCell (p := ⟨w1.heap.size, 1, none⟩) (Nat.le_refl _) (.int .u64 (n64 st2.2))
          have nkb := kb_far (kb_far (hkb.gr hg) hw01 0 (.int .u64 (n64 st2.1))) hw01 1 (.int .u64 (n64 st2.2))
          replace n3 := Lib.hid n3
          replace nA := Lib.hid nA
          replace nres := Lib.hid nres
          replace nrA := Lib.hid nrA
          replace nkb := Lib.hid nkb
          clear hb3 hkA hres hrA hkb hg hb4 d0 d1 hc
          go_wp2
          go_roundw
          case rel => first | exact ⟨2 + 1, st2, by omega, by go_num, n3.out, nA.out, nres.out, nrA.out, nkb.out, Lib.hid hstep2.out.symm⟩ | exact ⟨_, _, _, _, _, _, _, _, ⟨2 + 1, st2, by omega, rfl, n3.out, nA.out, nres.out, nrA.out, nkb.out, Lib.hid hstep2.out.symm⟩, rfl⟩
          case measure => simp [intOf]
        · have hc' := sround_any st (0) wr
          rw [show n64 0 = 0 from rfl] at hc'
          have hstep2 : ((lasts (UInt64.ofNat l.length)).take (3 + 1)).foldl round (t) = round st (0) := hstep.out
          generalize round st (0) = st2 at *
          replace hstep2 := Lib.hid hstep2
          have hc := Lib.hid hc'
          clear hc' hstep
          have hix : ∀ w, (Instr.index 109 (.agg #[.int .u64 (n64 (UInt64.ofNat l.length)), .int .u64 18446744073709551615, .int .u64 0, .int .u64 0]) (.int .i64 3)).run Try.prog w = .ok (.int .u64 0) w := fun w => run_index_ints w Try.underlying109 Try.underlying29 hj0 hj1 _ 3 (by omega) _ rfl
          go_wp2_with fail
          refine hc.out.mono ?_
          rintro e w' ⟨rfl, hg⟩
          have hb4 := hb3.below hg hblt
          have z0 := hb4.cell 0
          have z1 := hb4.cell 1
          have zf0 := hb4.frozen 0
          have zf1 := hb4.frozen 1
          have n3 : Blk ((w'.setCell ⟨w1.heap.size, 0, none⟩ (.int .u64 (n64 st2.1))).setCell ⟨w1.heap.size, 1, none⟩ (.int .u64 (n64 st2.2))) w1.heap.size 93 #[.int .u64 (n64 st2.1), .int .u64 (n64 st2.2)] := (hb4.set_ 0 _).set_ 1 _
          have nA := ((hkA.below hg hkA.lt).far (p := ⟨w1.heap.size, 0, none⟩) (by show g ≠ w1.heap.size; omega) (.int .u64 (n64 st2.1))).far (p := ⟨w1.heap.size, 1, none⟩) (by show g ≠ w1.heap.size; omega) (.int .u64 (n64 st2.2))
          have nres := ((hres.below hg hres.lt).far (p := ⟨w1.heap.size, 0, none⟩) (by show w.heap.size ≠ w1.heap.size; omega) (.int .u64 (n64 st2.1))).far (p := ⟨w1.heap.size, 1, none⟩) (by show w.heap.size ≠ w1.heap.size; omega) (.int .u64 (n64 st2.2))
          have nrA := ((hrA.below (Below.mono hg (Nat.le_of_lt hblt))).setCell (p := ⟨w1.heap.size, 0, none⟩) (Nat.le_refl _) (.int .u64 (n64 st2.1))).setCell (p := ⟨w1.heap.size, 1, none⟩) (Nat.le_refl _) (.int .u64 (n64 st2.2))
          have nkb := kb_far (kb_far (hkb.gr hg) hw01 0 (.int .u64 (n64 st2.1))) hw01 1 (.int .u64 (n64 st2.2))
          replace n3 := Lib.hid n3
          replace nA := Lib.hid nA
          replace nres := Lib.hid nres
          replace nrA := Lib.hid nrA
          replace nkb := Lib.hid nkb
          clear hb3 hkA hres hrA hkb hg hb4 d0 d1 hc
          go_wp2
          go_roundw
          case rel => first | exact ⟨3 + 1, st2, by omega, by go_num, n3.out, nA.out, nres.out, nrA.out, nkb.out, Lib.hid hstep2.out.symm⟩ | exact ⟨_, _, _, _, _, _, _, _, ⟨3 + 1, st2, by omega, rfl, n3.out, nA.out, nres.out, nrA.out, nkb.out, Lib.hid hstep2.out.symm⟩, rfl⟩
          case measure => simp [intOf]
      · have hk' : k = 4 := by omega
        subst hk'
        have hfin : st = of l := by rw [hst.out, hof.out]; rfl
        have hwr := hkb.size
        have d0 := hb3.cell 0
        have d1 := hb3.cell 1
        have r0 := hres.cell 0
        have r1 := hres.cell 1
        have rf0 := hres.frozen 0
        have rf1 := hres.frozen 1
        have hres2 := (hres.set_ 0 (.int .u64 (n64 st.1))).set_ 1 (.int .u64 (n64 st.2))
        have z0 := hres2.cell 0
        have z1 := hres2.cell 1
        have nA := Lib.hid ((hkA.far (p := ⟨w.heap.size, 0, none⟩) (by show g ≠ w.heap.size; omega) (.int .u64 (n64 st.1))).far (p := ⟨w.heap.size, 1, none⟩) (by show g ≠ w.heap.size; omega) (.int .u64 (n64 st.2)))
        have nrA := Lib.hid (RB.setFar (RB.setFar (hrA.more (B' := wr.heap.size) (Nat.le_of_lt hb3.lt)) (p := ⟨w.heap.size, 0, none⟩) hAr (.int .u64 (n64 st.1))) (p := ⟨w.heap.size, 1, none⟩) hAr (.int .u64 (n64 st.2)))
        have nkb := Lib.hid (kb_far (kb_far hkb (Nat.le_refl _) 0 (.int .u64 (n64 st.1))) (Nat.le_refl _) 1 (.int .u64 (n64 st.2)))
        clear hb3 hkA hres hrA hkb hst hres2
        go_wp2
        rw [← hfin]
        refine bodyPost_ret (v := sumV st) (by simp [results, Try.results52, go_sem, z0, z1]) rfl ⟨rfl, ?_, nkb.out⟩
        unfold Met MetN
        rw [hre.out, hse.out]
        exact ⟨A, c, nA.out, by rw [World.size_setCell, World.size_setCell]; exact nrA.out, fun ad h => by have := hA ad h; rw [World.size_setCell, World.size_setCell]; omega, hc, hm⟩
end Mix
end Go.Proofs.Ytcibngbgcnnjnaa

