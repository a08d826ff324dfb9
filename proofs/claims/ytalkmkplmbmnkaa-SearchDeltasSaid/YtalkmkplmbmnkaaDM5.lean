/- Texts that the law rests on, merged. No condition. -/
import Derived.Test.YtalkmkplmbmnkaaDM1
import Derived.Test.YtalkmkplmbmnkaaDM2
import Derived.Test.YtalkmkplmbmnkaaDM3
import Derived.Test.YtalkmkplmbmnkaaDM4
import Derived.BigQuiet
import Derived.KernelRfl
set_option linter.unusedVariables false
set_option linter.unusedSimpArgs false
namespace Go.Proofs.Ytalkmkplmbmnkaa
open Go Go.RowKit Go.Shelf W Sg Tk
theorem run_str2 {P : Program} {w : World} {T : TypeId} (hT : P.underlying T = some .string) (b : List UInt8) (k k' : IntKind) (f t : Nat) (hft : f ≤ t) (htl : t ≤ b.length) :
    (Instr.sliceAt T (str b) (some (.int k (f : Int))) (some (.int k' (t : Int))) none).run P w = .ok (str ((b.drop f).take (t - f))) w := by
  have h1 : (f : Int) ≤ (t : Int) := by omega
  have h2 : (t : Int) ≤ (b.length : Int) := by omega
  have hs : (⟨b.toArray⟩ : ByteArray).size = b.length := by simp [ByteArray.size]
  simp [Instr.sliceAt, Instr.slice, Instr.sliceBounds, Instr.sliceBound, run_underlying hT, asIntOf, hs, hft, htl, ByteArray.extract_mk]
theorem run_str1 {P : Program} {w : World} {T : TypeId} (hT : P.underlying T = some .string) (b : List UInt8) (k : IntKind) (f : Nat) (hft : f ≤ b.length) :
    (Instr.sliceAt T (str b) (some (.int k (f : Int))) none none).run P w = .ok (str (b.drop f)) w := by
  have h1 : (f : Int) ≤ (b.length : Int) := by omega
  have hs : (⟨b.toArray⟩ : ByteArray).size = b.length := by simp [ByteArray.size]
  simp [Instr.sliceAt, Instr.slice, Instr.sliceBounds, Instr.sliceBound, run_underlying hT, asIntOf, hs, hft, ByteArray.extract_mk]
  exact List.take_of_length_le (by rw [List.length_drop]; omega)
theorem res_str2 {P : Program} {w : World} {T : TypeId} {o : Oper} {a : Act} {b : List UInt8} {k k' : IntKind} {f n : Nat} (x y z : Operand) (hT : P.underlying T = some .string) (ho : o.op = .slice T x (some y) (some z) none)
    (h1 : a.eval x = str b) (h2 : a.eval y = .int k (f : Int)) (h3 : a.eval z = .int k' ((f + n : Nat) : Int)) (htl : f + n ≤ b.length) : Res P (execOp a.eval o) (eqv (str ((b.drop f).take n))) w := by
  refine .here (v := str ((b.drop f).take n)) ?_ rfl
  have := run_str2 (P := P) (w := w) hT b k k' f (f + n) (by omega) htl
  rw [Nat.add_sub_cancel_left] at this
  simp only [execOp, ho, h1, Option.map_some, Option.map_none, h2, h3]
  rw [Sem.run_bind, this]
  rfl
theorem res_str1 {P : Program} {w : World} {T : TypeId} {o : Oper} {a : Act} {b : List UInt8} {k : IntKind} {f : Nat} (x y : Operand) (hT : P.underlying T = some .string) (ho : o.op = .slice T x (some y) none none)
    (h1 : a.eval x = str b) (h2 : a.eval y = .int k (f : Int)) (hft : f ≤ b.length) : Res P (execOp a.eval o) (eqv (str (b.drop f))) w := by
  refine .here (v := str (b.drop f)) ?_ rfl
  simp only [execOp, ho, h1, Option.map_some, Option.map_none, h2]
  rw [Sem.run_bind, run_str1 hT b k f hft]
  rfl
namespace Se
theorem findF_right {s : Sig} {b : List UInt8} (hr : Sg.right s = true) : ∀ (n at_ : Nat) (next : Int), ∀ x ∈ findF s b n at_ next, Tk.right x = true := by
  have hbs := (Sg.right_spec hr).2.2.1
  intro n
  induction n with
  | zero => intro at_ next x hx; simp [findF] at hx
  | succ n ih =>
    intro at_ next x hx
    unfold findF at hx
    by_cases h0 : b.length ≤ at_
    · rw [if_pos h0] at hx; cases hx
    · rw [if_neg h0] at hx
      cases e : stepP s b at_ next with
      | none =>
        rw [e] at hx
        rcases List.mem_cons.1 hx with rfl | hx
        · have hd : ((b.drop at_).take 1).length = 1 := by rw [List.length_take, List.length_drop]; omega
          exact right_lit (by intro h; rw [h] at hd; cases hd) (by omega)
        · exact ih _ _ x hx
      | some q =>
        obtain ⟨k, m⟩ := q
        have hk := (step_pos e).2.2
        rw [e] at hx
        rcases List.mem_cons.1 hx with rfl | hx
        · exact copy_right (by omega)
        · exact ih _ _ x hx
/-- The reference's search, at a place. -/
def RSt (w : World) (s : Sig) (A1 : Option Addr) (c1 : Nat) (b : List UInt8) (at_ n : Nat) (next : Int) (out : List Tok) (A0 : Option Addr) (c0 : Nat) (W : World) : Prop :=
  out.length = n ∧ out ++ findP s b at_ next = findP s b 0 (-1) ∧ OR 52 3 W (w.heap.size + 1) (.slice A0 n c0) n (tcs out) ∧
  Blk W w.heap.size 38 (sigC s.size (.slice A1 s.bs.length c1) s.tail s.last) ∧ Gr w W
set_option maxRecDepth 100000 in
set_option maxHeartbeats 8000000 in
theorem refOf_r (s : Sig) (A1 : Option Addr) (c1 : Nat) (b : List UInt8) (w : World) (hsr : SR w w.heap.size A1 s.bs) (hrt : Sg.right s = true) (hbl : b.length ≤ 16384) :
    Calls Try.prog 9 #[sigV s A1 c1, str b] w (OutT 52 w (refOf s b)) := by
  obtain ⟨z1, z2, z3, z4⟩ := right_pos hrt
  have zb := (Sg.right_spec hrt).2.2.1
  obtain ⟨z, bs, t, x⟩ := s
  simp only at z1 z2 z3 z4 zb hsr
  obtain ⟨sz, rfl⟩ : ∃ k : Nat, z = (k : Int) := ⟨z.toNat, by omega⟩
  obtain ⟨tl, rfl⟩ : ∃ k : Nat, t = (k : Int) := ⟨t.toNat, by omega⟩
  have hri := Lib.hid (fun w => Sg.refRight_any (⟨(sz : Int), bs, (tl : Int), x⟩ : Sig) A1 c1 w)
  rw [hrt] at hri
  replace hrt := Lib.hid hrt
  have b0 := Blk.new w 38 (sigC (sz : Int) (.slice A1 bs.length c1) (tl : Int) x)
  have g0 := (Gr.refl w).alloc (.cells (sigC (sz : Int) (.slice A1 bs.length c1) (tl : Int) x) 38)
  replace hsr := Lib.hid hsr
  replace b0 := Lib.hid b0
  replace g0 := Lib.hid g0
  go_enter Try.func9, Try.ntmps9
  go_wp2
  generalize (w.alloc (.cells (sigC (sz : Int) (.slice A1 bs.length c1) (tl : Int) x) 38)) = w1 at b0 g0 ⊢
  go_loopw [5, 6, 7] (fun v5 v6 v7 wr => ∃ (at_ n : Nat) (next : Int) (out : List Tok) (A0 : Option Addr) (c0 : Nat), at_ ≤ b.length ∧ n ≤ at_ ∧ -1 ≤ next ∧ next ≤ 4097 ∧ v5 = .slice A0 n c0 ∧ v6 = .int .i64 next ∧ v7 = .int .i64 (at_ : Int) ∧ Hid (RSt w ⟨(sz : Int), bs, (tl : Int), x⟩ A1 c1 b at_ n next out A0 c0 wr)) (fun _ _ v7 _ => b.length - (intOf v7).toNat)
  case atStart => exact ⟨0, 0, -1, [], none, 0, by omega, by omega, by omega, by omega, rfl, rfl, rfl, Lib.hid ⟨rfl, by rw [List.nil_append], World.ownsRow_nil _ _ _ _, b0.out, g0.out⟩⟩
  case round =>
    clear b0 g0
    obtain ⟨at_, n, next, out, A0, c0, ha, hna, hx1, hx2, rfl, rfl, rfl, hst⟩ := hrel
    obtain ⟨hln, hout, hor, hbk, hgr⟩ := hst.out
    clear hst
    simp only at hbk
    have hws : w.heap.size < wr.heap.size := hbk.lt
    by_cases hlt : at_ < b.length
    · have y0 := hbk.cell 0
      have y1 := hbk.cell 1
      have y2 := hbk.cell 2
      have y3 := hbk.cell 3
      have y4 := hbk.cell 4
      have y5 := hbk.cell 5
      replace hbk := Lib.hid hbk
      replace hgr := Lib.hid hgr
      replace hor := Lib.hid hor
      replace hout := Lib.hid hout
      replace hln := Lib.hid hln
      have hlti : (at_ : Int) < (b.length : Int) := by omega
      have kw1 : IntKind.i64.wrap ((b.length : Int) - (at_ : Int)) = (b.length : Int) - (at_ : Int) := IntWalk.i64_in _ (by omega)
      go_wp2_with fail
      go_at_call 16
      refine (hri.out _).mono ?_
      rintro e W1 ⟨rfl, g1⟩
      clear y0 y1 y2 y3 y4 y5
      replace hbk := Lib.hid (blk_more hbk.out g1)
      replace hgr := Lib.hid (Below.trans hgr.out (Below.mono g1 (Below.size hgr.out)))
      replace hor := Lib.hid (OR.below hor.out g1)
      have hws1 : w.heap.size < W1.heap.size := hbk.out.lt
      have y0 := hbk.out.cell 0
      clear hws g1
      by_cases hge : (sz : Int) ≤ (b.length : Int) - (at_ : Int)
      · go_wp2
        refine region_grow rfl (by kernel_rfl) ?_
        refine GW.p1 (.agg #[.int .i64 (sz : Int), .slice A1 bs.length c1, .int .i64 (tl : Int), .int .u32 (n32 x.1), .int .u64 (n64 x.2.1), .int .u64 (n64 x.2.2)]) rfl trivial (kn0 (t := 2) (c := .pointer (some ⟨w.heap.size, 0, none⟩)) (by kernel_rfl) rfl) (fun ρ w' hρ hg => by simp [execOp, hρ, go_sem, (hg.cell (p := ⟨w.heap.size, 0, none⟩) hbk.out.lt).trans (hbk.out.cell 0), (hg.cell (p := ⟨w.heap.size, 1, none⟩) hbk.out.lt).trans (hbk.out.cell 1), (hg.cell (p := ⟨w.heap.size, 2, none⟩) hbk.out.lt).trans (hbk.out.cell 2), (hg.cell (p := ⟨w.heap.size, 3, none⟩) hbk.out.lt).trans (hbk.out.cell 3), (hg.cell (p := ⟨w.heap.size, 4, none⟩) hbk.out.lt).trans (hbk.out.cell 4), (hg.cell (p := ⟨w.heap.size, 5, none⟩) hbk.out.lt).trans (hbk.out.cell 5)]) ?_
        refine GW.mv rfl trivial (.inl rfl) (kn0 (t := 1) (c := str b) (by kernel_rfl) rfl) (eqv_lasts _) ?_
        refine GW.mv rfl trivial (.inl rfl) (kn0 (t := 7) (c := .int .i64 (at_ : Int)) (by kernel_rfl) rfl) (eqv_lasts _) ?_
        refine GW.mv rfl trivial (.inl rfl) (kn0 (t := 7) (c := .int .i64 (at_ : Int)) (by kernel_rfl) rfl) (eqv_lasts _) ?_
        refine GW.mv rfl trivial (.inl rfl) (kn0 (t := 9) (c := .int .i64 (sz : Int)) (by kernel_rfl) rfl) (eqv_lasts _) ?_
        refine GW.bin (.int .i64 ((at_ + sz : Nat) : Int)) rfl trivial rfl (kn (t := 30) (j := 3) (by kernel_rfl)) (kn (t := 31) (j := 4) (by kernel_rfl)) (fun w' => by simp [go_sem, IntKind.wrap_i64]; omega) ?_
        refine GW.op (eqv (str ((b.drop at_).take sz))) rfl (eqv_lasts _) trivial (fun a w' hg hkn => ?_) ?_
        · have h1 : a.eval (.tmp 28) = str b := (kn (t := 28) (j := 1) (by kernel_rfl)) a w' hg hkn
          have h2 : a.eval (.tmp 29) = .int .i64 (at_ : Int) := (kn (t := 29) (j := 2) (by kernel_rfl)) a w' hg hkn
          have h3 : a.eval (.tmp 32) = .int .i64 ((at_ + sz : Nat) : Int) := (kn (t := 32) (j := 5) (by kernel_rfl)) a w' hg hkn
          exact res_str2 (.tmp 28) (.tmp 29) (.tmp 32) Try.underlying9 rfl h1 h2 h3 (by omega)
        refine GW.call1 (eqv (sV (sign ((b.drop at_).take sz)))) rfl trivial rfl Try.func18 (by kernel_rfl) (by kernel_rfl) (eqv_lasts _) (kn (t := 33) (j := 6) (by kernel_rfl)) (fun v w' hg hv => ?_) ?_
        · obtain rfl : v = _ := hv
          refine (Sg.refSignOf_any ((b.drop at_).take sz) w' (by rw [List.length_take, List.length_drop]; omega)).mono ?_
          rintro e w9 ⟨rfl, hg9⟩
          exact ⟨_, rfl, rfl, hg9⟩
        refine GW.mv rfl trivial (.inl rfl) (kn0 (t := 6) (c := .int .i64 next) (by kernel_rfl) rfl) (eqv_lasts _) ?_
        refine GW.call3 (eqv (.int .i64 (whichI (whichP bs (sign ((b.drop at_).take sz)) next)))) rfl trivial rfl Try.func17 (by kernel_rfl) (by kernel_rfl) (eqv_lasts _) (kn (t := 27) (j := 0) (by kernel_rfl)) (kn (t := 34) (j := 7) (by kernel_rfl)) (kn (t := 35) (j := 8) (by kernel_rfl)) (fun v u s w' hg hv hu hs' => ?_) ?_
        · obtain rfl : v = _ := hv
          obtain rfl : u = _ := hu
          obtain rfl : s = _ := hs'
          refine (refWhich_any (⟨(sz : Int), bs, (tl : Int), x⟩ : Sig) A1 c1 (sign ((b.drop at_).take sz)) next w' (by have h := hsr.out.below (Below.trans hgr.out (Below.mono hg (Below.size hgr.out))); exact h.more (Nat.le_trans (Nat.le_of_lt hws1) (Below.size hg))) (by simp only; omega)).mono ?_
          rintro e w9 ⟨rfl, hg9⟩
          exact ⟨_, rfl, rfl, hg9⟩
        refine GW.mv rfl trivial (.inr rfl) (kn (t := 36) (j := 9) (by kernel_rfl)) (eqv_lasts _) ?_
        refine GW.done (by simp) (by kernel_rfl) (fun w' hg => ?_)
        rintro v0 - v1 - v2 - v3 - v4 - v5 - v6 - v7 - v8 - v9 - v10 h10
        obtain rfl : v10 = (.int .i64 (whichI (whichP bs (sign ((b.drop at_).take sz)) next))) := h10
        simp only [GFin, Act.put, List.setIfInBounds_toArray, List.set_cons_succ, List.set_cons_zero]
        replace hbk := Lib.hid (blk_more hbk.out hg)
        replace hgr := Lib.hid (Below.trans hgr.out (Below.mono hg (Below.size hgr.out)))
        replace hor := Lib.hid (OR.below hor.out hg)
        have hws2 : w.heap.size < w'.heap.size := hbk.out.lt
        clear hg y0 hws1
        cases hq : whichP bs (sign ((b.drop at_).take sz)) next with
        | none =>
          have hst : stepP ⟨(sz : Int), bs, (tl : Int), x⟩ b at_ next = none := by
            unfold stepP
            rw [if_pos ⟨hrt.out, hge⟩]
            simp only [Int.toNat_natCast, hq, Option.map_none]
          dsimp only [whichI]
          have hfp := Lib.hid (show (out ++ [(⟨0, 0, (b.drop at_).take 1⟩ : Tok)]) ++ findP (⟨(sz : Int), bs, (tl : Int), x⟩ : Sig) b (at_ + 1) ((-1)) = findP (⟨(sz : Int), bs, (tl : Int), x⟩ : Sig) b 0 (-1) by rw [← hout.out, findP_none (s := (⟨(sz : Int), bs, (tl : Int), x⟩ : Sig)) hlt hst, List.append_assoc]; rfl)
          have kw3 : IntKind.i64.wrap ((at_ : Int) + 1) = (at_ : Int) + 1 := IntWalk.i64_in _ (by omega)
          have kn1 : at_ + 1 - at_ = 1 := by omega
          have htn := Lib.hid (TR.new1 w' 52 (⟨0, 0, (b.drop at_).take 1⟩ : Tok))
          clear hst hout
          try clear hq
          have y1 := hbk.out.cell 1
          have y2 := hbk.out.cell 2
          go_wp2_with (first
            | ((with_reducible refine wpList_isApp (.tmp 79) (.tmp 86) 24 rfl ?_); refine wpList_append_rowsN (base := w.heap.size + 1) (v := .slice A0 n c0) rfl (.tmp 79) (.tmp 86) 24 rfl Try.underlying24 refRow rfl (by exact (World.ownsRow.alloc hor.out _)) (w'.heap.size + 1) (some ⟨w'.heap.size, 0, none⟩) 1 1 (tcs [(⟨0, 0, (b.drop at_).take 1⟩ : Tok)]) rfl (by exact htn.out) (tcs_one_cell _) (by unfold maxLen; omega) (by omega) (by rw [World.size_alloc]; omega) (tcs (out ++ [(⟨0, 0, (b.drop at_).take 1⟩ : Tok)])) (tcs_append _ _) (n + 1) rfl ?_; intro A9 c9 w9 o9 b9; replace o9 := Lib.hid o9; replace b9 := Lib.hid b9; clear hor htn))
          have gA := (Gr.refl w').alloc (.cells #[.int .i64 0, .int .i64 0, .string ⟨((b.drop at_).take 1).toArray⟩] 52)
          have bk9 : Blk w9 w.heap.size 38 _ := (blk_more hbk.out gA).below b9.out (by omega)
          have gr9 : Gr w w9 := Below.trans (Below.trans hgr.out (Below.mono gA (Below.size hgr.out))) (b9.out.mono (by omega))
          exact ⟨⟨at_ + 1, n + 1, (-1), out ++ [(⟨0, 0, (b.drop at_).take 1⟩ : Tok)], A9, c9, by omega, by omega, by omega, by omega, rfl, by go_num, by go_num, Lib.hid ⟨by rw [List.length_append, hln.out]; rfl, hfp.out, o9.out, bk9, gr9⟩⟩, by simp [intOf]; omega⟩
        | some k =>
          have hst : stepP ⟨(sz : Int), bs, (tl : Int), x⟩ b at_ next = some (k, sz) := by
            unfold stepP
            rw [if_pos ⟨hrt.out, hge⟩]
            simp only [Int.toNat_natCast, hq, Option.map_some]
          dsimp only [whichI]
          obtain ⟨hp1, hp2, hp3⟩ := step_pos hst
          simp only at hp3
          have hfp := Lib.hid (show (out ++ [(⟨((k : Nat) : Int), 1, []⟩ : Tok)]) ++ findP (⟨(sz : Int), bs, (tl : Int), x⟩ : Sig) b (at_ + sz) (((k : Nat) : Int) + 1) = findP (⟨(sz : Int), bs, (tl : Int), x⟩ : Sig) b 0 (-1) by rw [← hout.out, findP_some (s := (⟨(sz : Int), bs, (tl : Int), x⟩ : Sig)) hlt hst, List.append_assoc]; rfl)
          have kge : (0 : Int) ≤ ((k : Nat) : Int) := by omega
          have kw2 : IntKind.i64.wrap (((k : Nat) : Int) + 1) = ((k : Nat) : Int) + 1 := IntWalk.i64_in _ (by omega)
          have kw3 : IntKind.i64.wrap ((at_ : Int) + (sz : Int)) = (at_ : Int) + (sz : Int) := IntWalk.i64_in _ (by omega)
          have htn := Lib.hid (TR.new1 w' 52 (⟨((k : Nat) : Int), 1, []⟩ : Tok))
          clear hst hout
          try clear hq
          have y1 := hbk.out.cell 1
          have y2 := hbk.out.cell 2
          go_wp2_with (first
            | ((with_reducible refine wpList_isApp (.tmp 69) (.tmp 72) 24 rfl ?_); refine wpList_append_rowsN (base := w.heap.size + 1) (v := .slice A0 n c0) rfl (.tmp 69) (.tmp 72) 24 rfl Try.underlying24 refRow rfl (by exact (World.ownsRow.alloc hor.out _)) (w'.heap.size + 1) (some ⟨w'.heap.size, 0, none⟩) 1 1 (tcs [(⟨((k : Nat) : Int), 1, []⟩ : Tok)]) rfl (by exact htn.out) (tcs_one_cell _) (by unfold maxLen; omega) (by omega) (by rw [World.size_alloc]; omega) (tcs (out ++ [(⟨((k : Nat) : Int), 1, []⟩ : Tok)])) (tcs_append _ _) (n + 1) rfl ?_; intro A9 c9 w9 o9 b9; replace o9 := Lib.hid o9; replace b9 := Lib.hid b9; clear hor htn))
          have gA := (Gr.refl w').alloc (.cells #[.int .i64 ((k : Nat) : Int), .int .i64 1, .string ⟨#[]⟩] 52)
          have bk9 : Blk w9 w.heap.size 38 _ := (blk_more hbk.out gA).below b9.out (by omega)
          have gr9 : Gr w w9 := Below.trans (Below.trans hgr.out (Below.mono gA (Below.size hgr.out))) (b9.out.mono (by omega))
          exact ⟨⟨at_ + sz, n + 1, ((k : Nat) : Int) + 1, out ++ [(⟨((k : Nat) : Int), 1, []⟩ : Tok)], A9, c9, by omega, by omega, by omega, by omega, rfl, by go_num, by go_num, Lib.hid ⟨by rw [List.length_append, hln.out]; rfl, hfp.out, o9.out, bk9, gr9⟩⟩, by simp [intOf]; omega⟩
      · have hge' := hge
        by_cases c1' : 0 < tl
        · by_cases c2' : (b.length : Int) - (at_ : Int) = (tl : Int)
          · by_cases c3' : sign (b.drop at_) = x
            · have hst : stepP ⟨(sz : Int), bs, (tl : Int), x⟩ b at_ next = some (bs.length, tl) := by
                unfold stepP
                rw [if_neg (fun h => hge h.2), if_pos ⟨hrt.out, by simp only; omega, c2', c3'⟩]
                rfl
              have q3 : (sign (b.drop at_) == x) = true := by rw [c3']; simp
              have q2 : ((b.length : Int) - (at_ : Int) == (tl : Int)) = true := by rw [c2']; simp
              go_wp2
              refine region_grow rfl (by kernel_rfl) ?_
              refine GW.p1 (.agg #[.int .i64 (sz : Int), .slice A1 bs.length c1, .int .i64 (tl : Int), .int .u32 (n32 x.1), .int .u64 (n64 x.2.1), .int .u64 (n64 x.2.2)]) rfl trivial (kn0 (t := 2) (c := .pointer (some ⟨w.heap.size, 0, none⟩)) (by kernel_rfl) rfl) (fun ρ w' hρ hg => by simp [execOp, hρ, go_sem, (hg.cell (p := ⟨w.heap.size, 0, none⟩) hbk.out.lt).trans (hbk.out.cell 0), (hg.cell (p := ⟨w.heap.size, 1, none⟩) hbk.out.lt).trans (hbk.out.cell 1), (hg.cell (p := ⟨w.heap.size, 2, none⟩) hbk.out.lt).trans (hbk.out.cell 2), (hg.cell (p := ⟨w.heap.size, 3, none⟩) hbk.out.lt).trans (hbk.out.cell 3), (hg.cell (p := ⟨w.heap.size, 4, none⟩) hbk.out.lt).trans (hbk.out.cell 4), (hg.cell (p := ⟨w.heap.size, 5, none⟩) hbk.out.lt).trans (hbk.out.cell 5)]) ?_
              refine GW.call1 (eqv (.bool true)) rfl trivial rfl Try.func16 (by kernel_rfl) (by kernel_rfl) (eqv_lasts _) (kn (t := 37) (j := 0) (by kernel_rfl)) (fun v w' hg hv => ?_) ?_
              · obtain rfl : v = _ := hv
                refine (hri.out w').mono ?_
                rintro e w9 ⟨rfl, hg9⟩
                exact ⟨_, rfl, rfl, hg9⟩
              refine GW.mv rfl trivial (.inl rfl) (kn (t := 38) (j := 1) (by kernel_rfl)) (eqv_lasts _) ?_
              refine GW.p1 (.pointer (some ⟨w.heap.size, 2, none⟩)) rfl ⟨39, by kernel_rfl, by kernel_rfl, fun _ _ h => h⟩ (kn0 (t := 2) (c := .pointer (some ⟨w.heap.size, 0, none⟩)) (by kernel_rfl) rfl) (fun ρ w' hρ hg => by simp [execOp, hρ, go_sem]) ?_
              refine GW.p1 (.int .i64 (tl : Int)) rfl ⟨39, by kernel_rfl, by kernel_rfl, fun _ _ h => h⟩ (kn (t := 40) (j := 3) (by kernel_rfl)) (fun ρ w' hρ hg => by simp [execOp, hρ, go_sem, (hg.cell (p := ⟨w.heap.size, 2, none⟩) hbk.out.lt).trans (hbk.out.cell 2)]) ?_
              refine GW.bin (.bool true) rfl ⟨39, by kernel_rfl, by kernel_rfl, fun _ _ h => h⟩ rfl (kn (t := 41) (j := 4) (by kernel_rfl)) knc (fun w' => by simp [go_sem] <;> omega) ?_
              refine GW.pick (b := true) rfl trivial rfl (kn (t := 39) (j := 2) (by kernel_rfl)) (kn (t := 42) (j := 5) (by kernel_rfl)) (eqv_lasts _) ?_
              refine GW.mv rfl trivial (.inl rfl) (kn (t := 43) (j := 6) (by kernel_rfl)) (eqv_lasts _) ?_
              refine GW.mv rfl ⟨44, by kernel_rfl, by kernel_rfl, fun _ _ h => h⟩ (.inl rfl) (kn0 (t := 1) (c := str b) (by kernel_rfl) rfl) (eqv_lasts _) ?_
              refine GW.lenS b rfl ⟨44, by kernel_rfl, by kernel_rfl, fun _ _ h => h⟩ rfl Try.underlying9 (kn (t := 45) (j := 8) (by kernel_rfl)) ?_
              refine GW.mv rfl ⟨44, by kernel_rfl, by kernel_rfl, fun _ _ h => h⟩ (.inl rfl) (kn0 (t := 7) (c := .int .i64 (at_ : Int)) (by kernel_rfl) rfl) (eqv_lasts _) ?_
              refine GW.bin (.int .i64 ((b.length : Int) - (at_ : Int))) rfl ⟨44, by kernel_rfl, by kernel_rfl, fun _ _ h => h⟩ rfl (kn (t := 46) (j := 9) (by kernel_rfl)) (kn (t := 47) (j := 10) (by kernel_rfl)) (fun w' => by simp [go_sem, kw1]) ?_
              refine GW.p1 (.pointer (some ⟨w.heap.size, 2, none⟩)) rfl ⟨44, by kernel_rfl, by kernel_rfl, fun _ _ h => h⟩ (kn0 (t := 2) (c := .pointer (some ⟨w.heap.size, 0, none⟩)) (by kernel_rfl) rfl) (fun ρ w' hρ hg => by simp [execOp, hρ, go_sem]) ?_
              refine GW.p1 (.int .i64 (tl : Int)) rfl ⟨44, by kernel_rfl, by kernel_rfl, fun _ _ h => h⟩ (kn (t := 49) (j := 12) (by kernel_rfl)) (fun ρ w' hρ hg => by simp [execOp, hρ, go_sem, (hg.cell (p := ⟨w.heap.size, 2, none⟩) hbk.out.lt).trans (hbk.out.cell 2)]) ?_
              refine GW.bin (.bool true) rfl ⟨44, by kernel_rfl, by kernel_rfl, fun _ _ h => h⟩ rfl (kn (t := 48) (j := 11) (by kernel_rfl)) (kn (t := 50) (j := 13) (by kernel_rfl)) (fun w' => by simp [go_sem] <;> omega) ?_
              refine GW.pick (b := true) rfl trivial rfl (kn (t := 44) (j := 7) (by kernel_rfl)) (kn (t := 51) (j := 14) (by kernel_rfl)) (eqv_lasts _) ?_
              refine GW.mv rfl trivial (.inl rfl) (kn (t := 52) (j := 15) (by kernel_rfl)) (eqv_lasts _) ?_
              refine GW.mv rfl ⟨53, by kernel_rfl, by kernel_rfl, fun _ _ h => h⟩ (.inl rfl) (kn0 (t := 1) (c := str b) (by kernel_rfl) rfl) (eqv_lasts _) ?_
              refine GW.mv rfl ⟨53, by kernel_rfl, by kernel_rfl, fun _ _ h => h⟩ (.inl rfl) (kn0 (t := 7) (c := .int .i64 (at_ : Int)) (by kernel_rfl) rfl) (eqv_lasts _) ?_
              refine GW.op (eqv (str (b.drop at_))) rfl (eqv_lasts _) ⟨53, by kernel_rfl, by kernel_rfl, fun _ _ h => h⟩ (fun a w' hg hkn => ?_) ?_
              · have h1 : a.eval (.tmp 54) = str b := (kn (t := 54) (j := 17) (by kernel_rfl)) a w' hg hkn
                have h2 : a.eval (.tmp 55) = .int .i64 (at_ : Int) := (kn (t := 55) (j := 18) (by kernel_rfl)) a w' hg hkn
                exact res_str1 (.tmp 54) (.tmp 55) Try.underlying9 rfl h1 h2 (by omega)
              refine GW.call1 (eqv (sV (sign (b.drop at_)))) rfl ⟨53, by kernel_rfl, by kernel_rfl, fun _ _ h => h⟩ rfl Try.func18 (by kernel_rfl) (by kernel_rfl) (eqv_lasts _) (kn (t := 56) (j := 19) (by kernel_rfl)) (fun v w' hg hv => ?_) ?_
              · obtain rfl : v = _ := hv
                refine (Sg.refSignOf_any (b.drop at_) w' (by rw [List.length_drop]; omega)).mono ?_
                rintro e w9 ⟨rfl, hg9⟩
                exact ⟨_, rfl, rfl, hg9⟩
              refine GW.p1 (.pointer (some ⟨w.heap.size, 3, none⟩)) rfl ⟨53, by kernel_rfl, by kernel_rfl, fun _ _ h => h⟩ (kn0 (t := 2) (c := .pointer (some ⟨w.heap.size, 0, none⟩)) (by kernel_rfl) rfl) (fun ρ w' hρ hg => by simp [execOp, hρ, go_sem]) ?_
              refine GW.p1 (.agg #[.int .u32 (n32 x.1), .int .u64 (n64 x.2.1), .int .u64 (n64 x.2.2)]) rfl ⟨53, by kernel_rfl, by kernel_rfl, fun _ _ h => h⟩ (kn (t := 58) (j := 21) (by kernel_rfl)) (fun ρ w' hρ hg => by simp [execOp, hρ, go_sem, (hg.cell (p := ⟨w.heap.size, 3, none⟩) hbk.out.lt).trans (hbk.out.cell 3), (hg.cell (p := ⟨w.heap.size, 4, none⟩) hbk.out.lt).trans (hbk.out.cell 4), (hg.cell (p := ⟨w.heap.size, 5, none⟩) hbk.out.lt).trans (hbk.out.cell 5)]) ?_
              refine GW.bin (.bool true) rfl ⟨53, by kernel_rfl, by kernel_rfl, fun _ _ h => h⟩ rfl (kn (t := 57) (j := 20) (by kernel_rfl)) (kn (t := 59) (j := 22) (by kernel_rfl)) (fun w' => (q3 ▸ (run_eql_sign _ (.inr rfl) (sign (b.drop at_)) x _ _ w').1)) ?_
              refine GW.pick (b := true) rfl trivial rfl (kn (t := 53) (j := 16) (by kernel_rfl)) (kn (t := 60) (j := 23) (by kernel_rfl)) (eqv_lasts _) ?_
              refine GW.done (by simp) (by kernel_rfl) (fun w' hg => ?_)
              rintro v0 - v1 - v2 - v3 - v4 - v5 - v6 - v7 - v8 - v9 - v10 - v11 - v12 - v13 - v14 - v15 - v16 - v17 - v18 - v19 - v20 - v21 - v22 - v23 - v24 h24
              obtain rfl : v24 = (.bool true) := h24
              simp only [GFin, Act.put, List.setIfInBounds_toArray, List.set_cons_succ, List.set_cons_zero]
              replace hbk := Lib.hid (blk_more hbk.out hg)
              replace hgr := Lib.hid (Below.trans hgr.out (Below.mono hg (Below.size hgr.out)))
              replace hor := Lib.hid (OR.below hor.out hg)
              have hws2 : w.heap.size < w'.heap.size := hbk.out.lt
              clear hg y0 hws1
              obtain ⟨hp1, hp2, hp3⟩ := step_pos hst
              simp only at hp3
              have hfp := Lib.hid (show (out ++ [(⟨((bs.length : Nat) : Int), 1, []⟩ : Tok)]) ++ findP (⟨(sz : Int), bs, (tl : Int), x⟩ : Sig) b (at_ + tl) (((bs.length : Nat) : Int) + 1) = findP (⟨(sz : Int), bs, (tl : Int), x⟩ : Sig) b 0 (-1) by rw [← hout.out, findP_some (s := (⟨(sz : Int), bs, (tl : Int), x⟩ : Sig)) hlt hst, List.append_assoc]; rfl)
              have kge : (0 : Int) ≤ ((bs.length : Nat) : Int) := by omega
              have kw2 : IntKind.i64.wrap (((bs.length : Nat) : Int) + 1) = ((bs.length : Nat) : Int) + 1 := IntWalk.i64_in _ (by omega)
              have kw3 : IntKind.i64.wrap ((at_ : Int) + (tl : Int)) = (at_ : Int) + (tl : Int) := IntWalk.i64_in _ (by omega)
              have htn := Lib.hid (TR.new1 w' 52 (⟨((bs.length : Nat) : Int), 1, []⟩ : Tok))
              clear hst hout
              try clear hq
              have y1 := hbk.out.cell 1
              have y2 := hbk.out.cell 2
              go_wp2_with (first
                | ((with_reducible refine wpList_isApp (.tmp 69) (.tmp 72) 24 rfl ?_); refine wpList_append_rowsN (base := w.heap.size + 1) (v := .slice A0 n c0) rfl (.tmp 69) (.tmp 72) 24 rfl Try.underlying24 refRow rfl (by exact (World.ownsRow.alloc hor.out _)) (w'.heap.size + 1) (some ⟨w'.heap.size, 0, none⟩) 1 1 (tcs [(⟨((bs.length : Nat) : Int), 1, []⟩ : Tok)]) rfl (by exact htn.out) (tcs_one_cell _) (by unfold maxLen; omega) (by omega) (by rw [World.size_alloc]; omega) (tcs (out ++ [(⟨((bs.length : Nat) : Int), 1, []⟩ : Tok)])) (tcs_append _ _) (n + 1) rfl ?_; intro A9 c9 w9 o9 b9; replace o9 := Lib.hid o9; replace b9 := Lib.hid b9; clear hor htn))
              have gA := (Gr.refl w').alloc (.cells #[.int .i64 ((bs.length : Nat) : Int), .int .i64 1, .string ⟨#[]⟩] 52)
              have bk9 : Blk w9 w.heap.size 38 _ := (blk_more hbk.out gA).below b9.out (by omega)
              have gr9 : Gr w w9 := Below.trans (Below.trans hgr.out (Below.mono gA (Below.size hgr.out))) (b9.out.mono (by omega))
              exact ⟨⟨at_ + tl, n + 1, ((bs.length : Nat) : Int) + 1, out ++ [(⟨((bs.length : Nat) : Int), 1, []⟩ : Tok)], A9, c9, by omega, by omega, by omega, by omega, rfl, by go_num, by go_num, Lib.hid ⟨by rw [List.length_append, hln.out]; rfl, hfp.out, o9.out, bk9, gr9⟩⟩, by simp [intOf]; omega⟩
            · have hst : stepP ⟨(sz : Int), bs, (tl : Int), x⟩ b at_ next = none := by
                unfold stepP
                rw [if_neg (fun h => hge h.2), if_neg (fun h => c3' h.2.2.2)]
              have q3 : (sign (b.drop at_) == x) = false := by simpa using c3'
              have q2 : ((b.length : Int) - (at_ : Int) == (tl : Int)) = true := by rw [c2']; simp
              go_wp2
              refine region_grow rfl (by kernel_rfl) ?_
              refine GW.p1 (.agg #[.int .i64 (sz : Int), .slice A1 bs.length c1, .int .i64 (tl : Int), .int .u32 (n32 x.1), .int .u64 (n64 x.2.1), .int .u64 (n64 x.2.2)]) rfl trivial (kn0 (t := 2) (c := .pointer (some ⟨w.heap.size, 0, none⟩)) (by kernel_rfl) rfl) (fun ρ w' hρ hg => by simp [execOp, hρ, go_sem, (hg.cell (p := ⟨w.heap.size, 0, none⟩) hbk.out.lt).trans (hbk.out.cell 0), (hg.cell (p := ⟨w.heap.size, 1, none⟩) hbk.out.lt).trans (hbk.out.cell 1), (hg.cell (p := ⟨w.heap.size, 2, none⟩) hbk.out.lt).trans (hbk.out.cell 2), (hg.cell (p := ⟨w.heap.size, 3, none⟩) hbk.out.lt).trans (hbk.out.cell 3), (hg.cell (p := ⟨w.heap.size, 4, none⟩) hbk.out.lt).trans (hbk.out.cell 4), (hg.cell (p := ⟨w.heap.size, 5, none⟩) hbk.out.lt).trans (hbk.out.cell 5)]) ?_
              refine GW.call1 (eqv (.bool true)) rfl trivial rfl Try.func16 (by kernel_rfl) (by kernel_rfl) (eqv_lasts _) (kn (t := 37) (j := 0) (by kernel_rfl)) (fun v w' hg hv => ?_) ?_
              · obtain rfl : v = _ := hv
                refine (hri.out w').mono ?_
                rintro e w9 ⟨rfl, hg9⟩
                exact ⟨_, rfl, rfl, hg9⟩
              refine GW.mv rfl trivial (.inl rfl) (kn (t := 38) (j := 1) (by kernel_rfl)) (eqv_lasts _) ?_
              refine GW.p1 (.pointer (some ⟨w.heap.size, 2, none⟩)) rfl ⟨39, by kernel_rfl, by kernel_rfl, fun _ _ h => h⟩ (kn0 (t := 2) (c := .pointer (some ⟨w.heap.size, 0, none⟩)) (by kernel_rfl) rfl) (fun ρ w' hρ hg => by simp [execOp, hρ, go_sem]) ?_
              refine GW.p1 (.int .i64 (tl : Int)) rfl ⟨39, by kernel_rfl, by kernel_rfl, fun _ _ h => h⟩ (kn (t := 40) (j := 3) (by kernel_rfl)) (fun ρ w' hρ hg => by simp [execOp, hρ, go_sem, (hg.cell (p := ⟨w.heap.size, 2, none⟩) hbk.out.lt).trans (hbk.out.cell 2)]) ?_
              refine GW.bin (.bool true) rfl ⟨39, by kernel_rfl, by kernel_rfl, fun _ _ h => h⟩ rfl (kn (t := 41) (j := 4) (by kernel_rfl)) knc (fun w' => by simp [go_sem] <;> omega) ?_
              refine GW.pick (b := true) rfl trivial rfl (kn (t := 39) (j := 2) (by kernel_rfl)) (kn (t := 42) (j := 5) (by kernel_rfl)) (eqv_lasts _) ?_
              refine GW.mv rfl trivial (.inl rfl) (kn (t := 43) (j := 6) (by kernel_rfl)) (eqv_lasts _) ?_
              refine GW.mv rfl ⟨44, by kernel_rfl, by kernel_rfl, fun _ _ h => h⟩ (.inl rfl) (kn0 (t := 1) (c := str b) (by kernel_rfl) rfl) (eqv_lasts _) ?_
              refine GW.lenS b rfl ⟨44, by kernel_rfl, by kernel_rfl, fun _ _ h => h⟩ rfl Try.underlying9 (kn (t := 45) (j := 8) (by kernel_rfl)) ?_
              refine GW.mv rfl ⟨44, by kernel_rfl, by kernel_rfl, fun _ _ h => h⟩ (.inl rfl) (kn0 (t := 7) (c := .int .i64 (at_ : Int)) (by kernel_rfl) rfl) (eqv_lasts _) ?_
              refine GW.bin (.int .i64 ((b.length : Int) - (at_ : Int))) rfl ⟨44, by kernel_rfl, by kernel_rfl, fun _ _ h => h⟩ rfl (kn (t := 46) (j := 9) (by kernel_rfl)) (kn (t := 47) (j := 10) (by kernel_rfl)) (fun w' => by simp [go_sem, kw1]) ?_
              refine GW.p1 (.pointer (some ⟨w.heap.size, 2, none⟩)) rfl ⟨44, by kernel_rfl, by kernel_rfl, fun _ _ h => h⟩ (kn0 (t := 2) (c := .pointer (some ⟨w.heap.size, 0, none⟩)) (by kernel_rfl) rfl) (fun ρ w' hρ hg => by simp [execOp, hρ, go_sem]) ?_
              refine GW.p1 (.int .i64 (tl : Int)) rfl ⟨44, by kernel_rfl, by kernel_rfl, fun _ _ h => h⟩ (kn (t := 49) (j := 12) (by kernel_rfl)) (fun ρ w' hρ hg => by simp [execOp, hρ, go_sem, (hg.cell (p := ⟨w.heap.size, 2, none⟩) hbk.out.lt).trans (hbk.out.cell 2)]) ?_
              refine GW.bin (.bool true) rfl ⟨44, by kernel_rfl, by kernel_rfl, fun _ _ h => h⟩ rfl (kn (t := 48) (j := 11) (by kernel_rfl)) (kn (t := 50) (j := 13) (by kernel_rfl)) (fun w' => by simp [go_sem] <;> omega) ?_
              refine GW.pick (b := true) rfl trivial rfl (kn (t := 44) (j := 7) (by kernel_rfl)) (kn (t := 51) (j := 14) (by kernel_rfl)) (eqv_lasts _) ?_
              refine GW.mv rfl trivial (.inl rfl) (kn (t := 52) (j := 15) (by kernel_rfl)) (eqv_lasts _) ?_
              refine GW.mv rfl ⟨53, by kernel_rfl, by kernel_rfl, fun _ _ h => h⟩ (.inl rfl) (kn0 (t := 1) (c := str b) (by kernel_rfl) rfl) (eqv_lasts _) ?_
              refine GW.mv rfl ⟨53, by kernel_rfl, by kernel_rfl, fun _ _ h => h⟩ (.inl rfl) (kn0 (t := 7) (c := .int .i64 (at_ : Int)) (by kernel_rfl) rfl) (eqv_lasts _) ?_
              refine GW.op (eqv (str (b.drop at_))) rfl (eqv_lasts _) ⟨53, by kernel_rfl, by kernel_rfl, fun _ _ h => h⟩ (fun a w' hg hkn => ?_) ?_
              · have h1 : a.eval (.tmp 54) = str b := (kn (t := 54) (j := 17) (by kernel_rfl)) a w' hg hkn
                have h2 : a.eval (.tmp 55) = .int .i64 (at_ : Int) := (kn (t := 55) (j := 18) (by kernel_rfl)) a w' hg hkn
                exact res_str1 (.tmp 54) (.tmp 55) Try.underlying9 rfl h1 h2 (by omega)
              refine GW.call1 (eqv (sV (sign (b.drop at_)))) rfl ⟨53, by kernel_rfl, by kernel_rfl, fun _ _ h => h⟩ rfl Try.func18 (by kernel_rfl) (by kernel_rfl) (eqv_lasts _) (kn (t := 56) (j := 19) (by kernel_rfl)) (fun v w' hg hv => ?_) ?_
              · obtain rfl : v = _ := hv
                refine (Sg.refSignOf_any (b.drop at_) w' (by rw [List.length_drop]; omega)).mono ?_
                rintro e w9 ⟨rfl, hg9⟩
                exact ⟨_, rfl, rfl, hg9⟩
              refine GW.p1 (.pointer (some ⟨w.heap.size, 3, none⟩)) rfl ⟨53, by kernel_rfl, by kernel_rfl, fun _ _ h => h⟩ (kn0 (t := 2) (c := .pointer (some ⟨w.heap.size, 0, none⟩)) (by kernel_rfl) rfl) (fun ρ w' hρ hg => by simp [execOp, hρ, go_sem]) ?_
              refine GW.p1 (.agg #[.int .u32 (n32 x.1), .int .u64 (n64 x.2.1), .int .u64 (n64 x.2.2)]) rfl ⟨53, by kernel_rfl, by kernel_rfl, fun _ _ h => h⟩ (kn (t := 58) (j := 21) (by kernel_rfl)) (fun ρ w' hρ hg => by simp [execOp, hρ, go_sem, (hg.cell (p := ⟨w.heap.size, 3, none⟩) hbk.out.lt).trans (hbk.out.cell 3), (hg.cell (p := ⟨w.heap.size, 4, none⟩) hbk.out.lt).trans (hbk.out.cell 4), (hg.cell (p := ⟨w.heap.size, 5, none⟩) hbk.out.lt).trans (hbk.out.cell 5)]) ?_
              refine GW.bin (.bool false) rfl ⟨53, by kernel_rfl, by kernel_rfl, fun _ _ h => h⟩ rfl (kn (t := 57) (j := 20) (by kernel_rfl)) (kn (t := 59) (j := 22) (by kernel_rfl)) (fun w' => (q3 ▸ (run_eql_sign _ (.inr rfl) (sign (b.drop at_)) x _ _ w').1)) ?_
              refine GW.pick (b := true) rfl trivial rfl (kn (t := 53) (j := 16) (by kernel_rfl)) (kn (t := 60) (j := 23) (by kernel_rfl)) (eqv_lasts _) ?_
              refine GW.done (by simp) (by kernel_rfl) (fun w' hg => ?_)
              rintro v0 - v1 - v2 - v3 - v4 - v5 - v6 - v7 - v8 - v9 - v10 - v11 - v12 - v13 - v14 - v15 - v16 - v17 - v18 - v19 - v20 - v21 - v22 - v23 - v24 h24
              obtain rfl : v24 = (.bool false) := h24
              simp only [GFin, Act.put, List.setIfInBounds_toArray, List.set_cons_succ, List.set_cons_zero]
              replace hbk := Lib.hid (blk_more hbk.out hg)
              replace hgr := Lib.hid (Below.trans hgr.out (Below.mono hg (Below.size hgr.out)))
              replace hor := Lib.hid (OR.below hor.out hg)
              have hws2 : w.heap.size < w'.heap.size := hbk.out.lt
              clear hg y0 hws1
              have hfp := Lib.hid (show (out ++ [(⟨0, 0, (b.drop at_).take 1⟩ : Tok)]) ++ findP (⟨(sz : Int), bs, (tl : Int), x⟩ : Sig) b (at_ + 1) ((-1)) = findP (⟨(sz : Int), bs, (tl : Int), x⟩ : Sig) b 0 (-1) by rw [← hout.out, findP_none (s := (⟨(sz : Int), bs, (tl : Int), x⟩ : Sig)) hlt hst, List.append_assoc]; rfl)
              have kw3 : IntKind.i64.wrap ((at_ : Int) + 1) = (at_ : Int) + 1 := IntWalk.i64_in _ (by omega)
              have kn1 : at_ + 1 - at_ = 1 := by omega
              have htn := Lib.hid (TR.new1 w' 52 (⟨0, 0, (b.drop at_).take 1⟩ : Tok))
              clear hst hout
              try clear hq
              have y1 := hbk.out.cell 1
              have y2 := hbk.out.cell 2
              go_wp2_with (first
                | ((with_reducible refine wpList_isApp (.tmp 79) (.tmp 86) 24 rfl ?_); refine wpList_append_rowsN (base := w.heap.size + 1) (v := .slice A0 n c0) rfl (.tmp 79) (.tmp 86) 24 rfl Try.underlying24 refRow rfl (by exact (World.ownsRow.alloc hor.out _)) (w'.heap.size + 1) (some ⟨w'.heap.size, 0, none⟩) 1 1 (tcs [(⟨0, 0, (b.drop at_).take 1⟩ : Tok)]) rfl (by exact htn.out) (tcs_one_cell _) (by unfold maxLen; omega) (by omega) (by rw [World.size_alloc]; omega) (tcs (out ++ [(⟨0, 0, (b.drop at_).take 1⟩ : Tok)])) (tcs_append _ _) (n + 1) rfl ?_; intro A9 c9 w9 o9 b9; replace o9 := Lib.hid o9; replace b9 := Lib.hid b9; clear hor htn))
              have gA := (Gr.refl w').alloc (.cells #[.int .i64 0, .int .i64 0, .string ⟨((b.drop at_).take 1).toArray⟩] 52)
              have bk9 : Blk w9 w.heap.size 38 _ := (blk_more hbk.out gA).below b9.out (by omega)
              have gr9 : Gr w w9 := Below.trans (Below.trans hgr.out (Below.mono gA (Below.size hgr.out))) (b9.out.mono (by omega))
              exact ⟨⟨at_ + 1, n + 1, (-1), out ++ [(⟨0, 0, (b.drop at_).take 1⟩ : Tok)], A9, c9, by omega, by omega, by omega, by omega, rfl, by go_num, by go_num, Lib.hid ⟨by rw [List.length_append, hln.out]; rfl, hfp.out, o9.out, bk9, gr9⟩⟩, by simp [intOf]; omega⟩
          · have hst : stepP ⟨(sz : Int), bs, (tl : Int), x⟩ b at_ next = none := by
              unfold stepP
              rw [if_neg (fun h => hge h.2), if_neg (fun h => c2' h.2.2.1)]
            have q2 : ((b.length : Int) - (at_ : Int) == (tl : Int)) = false := by simpa using c2'
            go_wp2
            refine region_grow rfl (by kernel_rfl) ?_
            refine GW.p1 (.agg #[.int .i64 (sz : Int), .slice A1 bs.length c1, .int .i64 (tl : Int), .int .u32 (n32 x.1), .int .u64 (n64 x.2.1), .int .u64 (n64 x.2.2)]) rfl trivial (kn0 (t := 2) (c := .pointer (some ⟨w.heap.size, 0, none⟩)) (by kernel_rfl) rfl) (fun ρ w' hρ hg => by simp [execOp, hρ, go_sem, (hg.cell (p := ⟨w.heap.size, 0, none⟩) hbk.out.lt).trans (hbk.out.cell 0), (hg.cell (p := ⟨w.heap.size, 1, none⟩) hbk.out.lt).trans (hbk.out.cell 1), (hg.cell (p := ⟨w.heap.size, 2, none⟩) hbk.out.lt).trans (hbk.out.cell 2), (hg.cell (p := ⟨w.heap.size, 3, none⟩) hbk.out.lt).trans (hbk.out.cell 3), (hg.cell (p := ⟨w.heap.size, 4, none⟩) hbk.out.lt).trans (hbk.out.cell 4), (hg.cell (p := ⟨w.heap.size, 5, none⟩) hbk.out.lt).trans (hbk.out.cell 5)]) ?_
            refine GW.call1 (eqv (.bool true)) rfl trivial rfl Try.func16 (by kernel_rfl) (by kernel_rfl) (eqv_lasts _) (kn (t := 37) (j := 0) (by kernel_rfl)) (fun v w' hg hv => ?_) ?_
            · obtain rfl : v = _ := hv
              refine (hri.out w').mono ?_
              rintro e w9 ⟨rfl, hg9⟩
              exact ⟨_, rfl, rfl, hg9⟩
            refine GW.mv rfl trivial (.inl rfl) (kn (t := 38) (j := 1) (by kernel_rfl)) (eqv_lasts _) ?_
            refine GW.p1 (.pointer (some ⟨w.heap.size, 2, none⟩)) rfl ⟨39, by kernel_rfl, by kernel_rfl, fun _ _ h => h⟩ (kn0 (t := 2) (c := .pointer (some ⟨w.heap.size, 0, none⟩)) (by kernel_rfl) rfl) (fun ρ w' hρ hg => by simp [execOp, hρ, go_sem]) ?_
            refine GW.p1 (.int .i64 (tl : Int)) rfl ⟨39, by kernel_rfl, by kernel_rfl, fun _ _ h => h⟩ (kn (t := 40) (j := 3) (by kernel_rfl)) (fun ρ w' hρ hg => by simp [execOp, hρ, go_sem, (hg.cell (p := ⟨w.heap.size, 2, none⟩) hbk.out.lt).trans (hbk.out.cell 2)]) ?_
            refine GW.bin (.bool true) rfl ⟨39, by kernel_rfl, by kernel_rfl, fun _ _ h => h⟩ rfl (kn (t := 41) (j := 4) (by kernel_rfl)) knc (fun w' => by simp [go_sem] <;> omega) ?_
            refine GW.pick (b := true) rfl trivial rfl (kn (t := 39) (j := 2) (by kernel_rfl)) (kn (t := 42) (j := 5) (by kernel_rfl)) (eqv_lasts _) ?_
            refine GW.mv rfl trivial (.inl rfl) (kn (t := 43) (j := 6) (by kernel_rfl)) (eqv_lasts _) ?_
            refine GW.mv rfl ⟨44, by kernel_rfl, by kernel_rfl, fun _ _ h => h⟩ (.inl rfl) (kn0 (t := 1) (c := str b) (by kernel_rfl) rfl) (eqv_lasts _) ?_
            refine GW.lenS b rfl ⟨44, by kernel_rfl, by kernel_rfl, fun _ _ h => h⟩ rfl Try.underlying9 (kn (t := 45) (j := 8) (by kernel_rfl)) ?_
            refine GW.mv rfl ⟨44, by kernel_rfl, by kernel_rfl, fun _ _ h => h⟩ (.inl rfl) (kn0 (t := 7) (c := .int .i64 (at_ : Int)) (by kernel_rfl) rfl) (eqv_lasts _) ?_
            refine GW.bin (.int .i64 ((b.length : Int) - (at_ : Int))) rfl ⟨44, by kernel_rfl, by kernel_rfl, fun _ _ h => h⟩ rfl (kn (t := 46) (j := 9) (by kernel_rfl)) (kn (t := 47) (j := 10) (by kernel_rfl)) (fun w' => by simp [go_sem, kw1]) ?_
            refine GW.p1 (.pointer (some ⟨w.heap.size, 2, none⟩)) rfl ⟨44, by kernel_rfl, by kernel_rfl, fun _ _ h => h⟩ (kn0 (t := 2) (c := .pointer (some ⟨w.heap.size, 0, none⟩)) (by kernel_rfl) rfl) (fun ρ w' hρ hg => by simp [execOp, hρ, go_sem]) ?_
            refine GW.p1 (.int .i64 (tl : Int)) rfl ⟨44, by kernel_rfl, by kernel_rfl, fun _ _ h => h⟩ (kn (t := 49) (j := 12) (by kernel_rfl)) (fun ρ w' hρ hg => by simp [execOp, hρ, go_sem, (hg.cell (p := ⟨w.heap.size, 2, none⟩) hbk.out.lt).trans (hbk.out.cell 2)]) ?_
            refine GW.bin (.bool false) rfl ⟨44, by kernel_rfl, by kernel_rfl, fun _ _ h => h⟩ rfl (kn (t := 48) (j := 11) (by kernel_rfl)) (kn (t := 50) (j := 13) (by kernel_rfl)) (fun w' => by simp [go_sem] <;> omega) ?_
            refine GW.pick (b := true) rfl trivial rfl (kn (t := 44) (j := 7) (by kernel_rfl)) (kn (t := 51) (j := 14) (by kernel_rfl)) (eqv_lasts _) ?_
            refine GW.mv rfl trivial (.inl rfl) (kn (t := 52) (j := 15) (by kernel_rfl)) (eqv_lasts _) ?_
            refine GW.skip rfl rfl (d := 53) (by kernel_rfl) (by kernel_rfl) (fun _ _ h => .inl h) ?_
            refine GW.skip rfl rfl (d := 53) (by kernel_rfl) (by kernel_rfl) (fun _ _ h => .inl h) ?_
            refine GW.skip rfl rfl (d := 53) (by kernel_rfl) (by kernel_rfl) (fun _ _ h => .inl h) ?_
            refine GW.skip rfl rfl (d := 53) (by kernel_rfl) (by kernel_rfl) (fun _ _ h => .inl h) ?_
            refine GW.skip rfl rfl (d := 53) (by kernel_rfl) (by kernel_rfl) (fun _ _ h => .inl h) ?_
            refine GW.skip rfl rfl (d := 53) (by kernel_rfl) (by kernel_rfl) (fun _ _ h => .inl h) ?_
            refine GW.skip rfl rfl (d := 53) (by kernel_rfl) (by kernel_rfl) (fun _ _ h => .inl h) ?_
            refine GW.pick (b := false) rfl trivial rfl (kn (t := 53) (j := 16) (by kernel_rfl)) (knc) (eqv_lasts _) ?_
            refine GW.done (by simp) (by kernel_rfl) (fun w' hg => ?_)
            rintro v0 - v1 - v2 - v3 - v4 - v5 - v6 - v7 - v8 - v9 - v10 - v11 - v12 - v13 - v14 - v15 - v16 - v17 - v18 - v19 - v20 - v21 - v22 - v23 - v24 h24
            obtain rfl : v24 = (Value.bool false) := h24
            simp only [GFin, Act.put, List.setIfInBounds_toArray, List.set_cons_succ, List.set_cons_zero]
            replace hbk := Lib.hid (blk_more hbk.out hg)
            replace hgr := Lib.hid (Below.trans hgr.out (Below.mono hg (Below.size hgr.out)))
            replace hor := Lib.hid (OR.below hor.out hg)
            have hws2 : w.heap.size < w'.heap.size := hbk.out.lt
            clear hg y0 hws1
            have hfp := Lib.hid (show (out ++ [(⟨0, 0, (b.drop at_).take 1⟩ : Tok)]) ++ findP (⟨(sz : Int), bs, (tl : Int), x⟩ : Sig) b (at_ + 1) ((-1)) = findP (⟨(sz : Int), bs, (tl : Int), x⟩ : Sig) b 0 (-1) by rw [← hout.out, findP_none (s := (⟨(sz : Int), bs, (tl : Int), x⟩ : Sig)) hlt hst, List.append_assoc]; rfl)
            have kw3 : IntKind.i64.wrap ((at_ : Int) + 1) = (at_ : Int) + 1 := IntWalk.i64_in _ (by omega)
            have kn1 : at_ + 1 - at_ = 1 := by omega
            have htn := Lib.hid (TR.new1 w' 52 (⟨0, 0, (b.drop at_).take 1⟩ : Tok))
            clear hst hout
            try clear hq
            have y1 := hbk.out.cell 1
            have y2 := hbk.out.cell 2
            go_wp2_with (first
              | ((with_reducible refine wpList_isApp (.tmp 79) (.tmp 86) 24 rfl ?_); refine wpList_append_rowsN (base := w.heap.size + 1) (v := .slice A0 n c0) rfl (.tmp 79) (.tmp 86) 24 rfl Try.underlying24 refRow rfl (by exact (World.ownsRow.alloc hor.out _)) (w'.heap.size + 1) (some ⟨w'.heap.size, 0, none⟩) 1 1 (tcs [(⟨0, 0, (b.drop at_).take 1⟩ : Tok)]) rfl (by exact htn.out) (tcs_one_cell _) (by unfold maxLen; omega) (by omega) (by rw [World.size_alloc]; omega) (tcs (out ++ [(⟨0, 0, (b.drop at_).take 1⟩ : Tok)])) (tcs_append _ _) (n + 1) rfl ?_; intro A9 c9 w9 o9 b9; replace o9 := Lib.hid o9; replace b9 := Lib.hid b9; clear hor htn))
            have gA := (Gr.refl w').alloc (.cells #[.int .i64 0, .int .i64 0, .string ⟨((b.drop at_).take 1).toArray⟩] 52)
            have bk9 : Blk w9 w.heap.size 38 _ := (blk_more hbk.out gA).below b9.out (by omega)
            have gr9 : Gr w w9 := Below.trans (Below.trans hgr.out (Below.mono gA (Below.size hgr.out))) (b9.out.mono (by omega))
            exact ⟨⟨at_ + 1, n + 1, (-1), out ++ [(⟨0, 0, (b.drop at_).take 1⟩ : Tok)], A9, c9, by omega, by omega, by omega, by omega, rfl, by go_num, by go_num, Lib.hid ⟨by rw [List.length_append, hln.out]; rfl, hfp.out, o9.out, bk9, gr9⟩⟩, by simp [intOf]; omega⟩
        · have hst : stepP ⟨(sz : Int), bs, (tl : Int), x⟩ b at_ next = none := by
            unfold stepP
            rw [if_neg (fun h => hge h.2), if_neg (fun h => c1' (by have := h.2.1; simp only at this; omega))]
          go_wp2
          refine region_grow rfl (by kernel_rfl) ?_
          refine GW.p1 (.agg #[.int .i64 (sz : Int), .slice A1 bs.length c1, .int .i64 (tl : Int), .int .u32 (n32 x.1), .int .u64 (n64 x.2.1), .int .u64 (n64 x.2.2)]) rfl trivial (kn0 (t := 2) (c := .pointer (some ⟨w.heap.size, 0, none⟩)) (by kernel_rfl) rfl) (fun ρ w' hρ hg => by simp [execOp, hρ, go_sem, (hg.cell (p := ⟨w.heap.size, 0, none⟩) hbk.out.lt).trans (hbk.out.cell 0), (hg.cell (p := ⟨w.heap.size, 1, none⟩) hbk.out.lt).trans (hbk.out.cell 1), (hg.cell (p := ⟨w.heap.size, 2, none⟩) hbk.out.lt).trans (hbk.out.cell 2), (hg.cell (p := ⟨w.heap.size, 3, none⟩) hbk.out.lt).trans (hbk.out.cell 3), (hg.cell (p := ⟨w.heap.size, 4, none⟩) hbk.out.lt).trans (hbk.out.cell 4), (hg.cell (p := ⟨w.heap.size, 5, none⟩) hbk.out.lt).trans (hbk.out.cell 5)]) ?_
          refine GW.call1 (eqv (.bool true)) rfl trivial rfl Try.func16 (by kernel_rfl) (by kernel_rfl) (eqv_lasts _) (kn (t := 37) (j := 0) (by kernel_rfl)) (fun v w' hg hv => ?_) ?_
          · obtain rfl : v = _ := hv
            refine (hri.out w').mono ?_
            rintro e w9 ⟨rfl, hg9⟩
            exact ⟨_, rfl, rfl, hg9⟩
          refine GW.mv rfl trivial (.inl rfl) (kn (t := 38) (j := 1) (by kernel_rfl)) (eqv_lasts _) ?_
          refine GW.p1 (.pointer (some ⟨w.heap.size, 2, none⟩)) rfl ⟨39, by kernel_rfl, by kernel_rfl, fun _ _ h => h⟩ (kn0 (t := 2) (c := .pointer (some ⟨w.heap.size, 0, none⟩)) (by kernel_rfl) rfl) (fun ρ w' hρ hg => by simp [execOp, hρ, go_sem]) ?_
          refine GW.p1 (.int .i64 (tl : Int)) rfl ⟨39, by kernel_rfl, by kernel_rfl, fun _ _ h => h⟩ (kn (t := 40) (j := 3) (by kernel_rfl)) (fun ρ w' hρ hg => by simp [execOp, hρ, go_sem, (hg.cell (p := ⟨w.heap.size, 2, none⟩) hbk.out.lt).trans (hbk.out.cell 2)]) ?_
          refine GW.bin (.bool false) rfl ⟨39, by kernel_rfl, by kernel_rfl, fun _ _ h => h⟩ rfl (kn (t := 41) (j := 4) (by kernel_rfl)) knc (fun w' => by simp [go_sem] <;> omega) ?_
          refine GW.pick (b := true) rfl trivial rfl (kn (t := 39) (j := 2) (by kernel_rfl)) (kn (t := 42) (j := 5) (by kernel_rfl)) (eqv_lasts _) ?_
          refine GW.mv rfl trivial (.inl rfl) (kn (t := 43) (j := 6) (by kernel_rfl)) (eqv_lasts _) ?_
          refine GW.skip rfl rfl (d := 44) (by kernel_rfl) (by kernel_rfl) (fun _ _ h => .inl h) ?_
          refine GW.skip rfl rfl (d := 44) (by kernel_rfl) (by kernel_rfl) (fun _ _ h => .inl h) ?_
          refine GW.skip rfl rfl (d := 44) (by kernel_rfl) (by kernel_rfl) (fun _ _ h => .inl h) ?_
          refine GW.skip rfl rfl (d := 44) (by kernel_rfl) (by kernel_rfl) (fun _ _ h => .inl h) ?_
          refine GW.skip rfl rfl (d := 44) (by kernel_rfl) (by kernel_rfl) (fun _ _ h => .inl h) ?_
          refine GW.skip rfl rfl (d := 44) (by kernel_rfl) (by kernel_rfl) (fun _ _ h => .inl h) ?_
          refine GW.skip rfl rfl (d := 44) (by kernel_rfl) (by kernel_rfl) (fun _ _ h => .inl h) ?_
          refine GW.pick (b := false) rfl trivial rfl (kn (t := 44) (j := 7) (by kernel_rfl)) (knc) (eqv_lasts _) ?_
          refine GW.mv rfl trivial (.inl rfl) (kn (t := 52) (j := 15) (by kernel_rfl)) (eqv_lasts _) ?_
          refine GW.skip rfl rfl (d := 53) (by kernel_rfl) (by kernel_rfl) (fun _ _ h => .inl h) ?_
          refine GW.skip rfl rfl (d := 53) (by kernel_rfl) (by kernel_rfl) (fun _ _ h => .inl h) ?_
          refine GW.skip rfl rfl (d := 53) (by kernel_rfl) (by kernel_rfl) (fun _ _ h => .inl h) ?_
          refine GW.skip rfl rfl (d := 53) (by kernel_rfl) (by kernel_rfl) (fun _ _ h => .inl h) ?_
          refine GW.skip rfl rfl (d := 53) (by kernel_rfl) (by kernel_rfl) (fun _ _ h => .inl h) ?_
          refine GW.skip rfl rfl (d := 53) (by kernel_rfl) (by kernel_rfl) (fun _ _ h => .inl h) ?_
          refine GW.skip rfl rfl (d := 53) (by kernel_rfl) (by kernel_rfl) (fun _ _ h => .inl h) ?_
          refine GW.pick (b := false) rfl trivial rfl (kn (t := 53) (j := 16) (by kernel_rfl)) (knc) (eqv_lasts _) ?_
          refine GW.done (by simp) (by kernel_rfl) (fun w' hg => ?_)
          rintro v0 - v1 - v2 - v3 - v4 - v5 - v6 - v7 - v8 - v9 - v10 - v11 - v12 - v13 - v14 - v15 - v16 - v17 - v18 - v19 - v20 - v21 - v22 - v23 - v24 h24
          obtain rfl : v24 = (Value.bool false) := h24
          simp only [GFin, Act.put, List.setIfInBounds_toArray, List.set_cons_succ, List.set_cons_zero]
          replace hbk := Lib.hid (blk_more hbk.out hg)
          replace hgr := Lib.hid (Below.trans hgr.out (Below.mono hg (Below.size hgr.out)))
          replace hor := Lib.hid (OR.below hor.out hg)
          have hws2 : w.heap.size < w'.heap.size := hbk.out.lt
          clear hg y0 hws1
          have hfp := Lib.hid (show (out ++ [(⟨0, 0, (b.drop at_).take 1⟩ : Tok)]) ++ findP (⟨(sz : Int), bs, (tl : Int), x⟩ : Sig) b (at_ + 1) ((-1)) = findP (⟨(sz : Int), bs, (tl : Int), x⟩ : Sig) b 0 (-1) by rw [← hout.out, findP_none (s := (⟨(sz : Int), bs, (tl : Int), x⟩ : Sig)) hlt hst, List.append_assoc]; rfl)
          have kw3 : IntKind.i64.wrap ((at_ : Int) + 1) = (at_ : Int) + 1 := IntWalk.i64_in _ (by omega)
          have kn1 : at_ + 1 - at_ = 1 := by omega
          have htn := Lib.hid (TR.new1 w' 52 (⟨0, 0, (b.drop at_).take 1⟩ : Tok))
          clear hst hout
          try clear hq
          have y1 := hbk.out.cell 1
          have y2 := hbk.out.cell 2
          go_wp2_with (first
            | ((with_reducible refine wpList_isApp (.tmp 79) (.tmp 86) 24 rfl ?_); refine wpList_append_rowsN (base := w.heap.size + 1) (v := .slice A0 n c0) rfl (.tmp 79) (.tmp 86) 24 rfl Try.underlying24 refRow rfl (by exact (World.ownsRow.alloc hor.out _)) (w'.heap.size + 1) (some ⟨w'.heap.size, 0, none⟩) 1 1 (tcs [(⟨0, 0, (b.drop at_).take 1⟩ : Tok)]) rfl (by exact htn.out) (tcs_one_cell _) (by unfold maxLen; omega) (by omega) (by rw [World.size_alloc]; omega) (tcs (out ++ [(⟨0, 0, (b.drop at_).take 1⟩ : Tok)])) (tcs_append _ _) (n + 1) rfl ?_; intro A9 c9 w9 o9 b9; replace o9 := Lib.hid o9; replace b9 := Lib.hid b9; clear hor htn))
          have gA := (Gr.refl w').alloc (.cells #[.int .i64 0, .int .i64 0, .string ⟨((b.drop at_).take 1).toArray⟩] 52)
          have bk9 : Blk w9 w.heap.size 38 _ := (blk_more hbk.out gA).below b9.out (by omega)
          have gr9 : Gr w w9 := Below.trans (Below.trans hgr.out (Below.mono gA (Below.size hgr.out))) (b9.out.mono (by omega))
          exact ⟨⟨at_ + 1, n + 1, (-1), out ++ [(⟨0, 0, (b.drop at_).take 1⟩ : Tok)], A9, c9, by omega, by omega, by omega, by omega, rfl, by go_num, by go_num, Lib.hid ⟨by rw [List.length_append, hln.out]; rfl, hfp.out, o9.out, bk9, gr9⟩⟩, by simp [intOf]; omega⟩
    · rw [findP_end (by omega), List.append_nil] at hout
      have hfit : Fits out := ⟨by omega, fun t ht => (right_fit (findF_right hrt.out _ _ _ t (show t ∈ findF _ b (b.length + 1) 0 (-1) from by have := hout ▸ ht; exact this))).1⟩
      have htr : TR wr wr.heap.size A0 out := by
        have := OR.reads hor
        unfold TR
        rw [hln]
        exact this
      have hjo := refJoin_out A0 c0 out wr htr hfit (by omega)
      have hR : join out = refOf ⟨(sz : Int), bs, (tl : Int), x⟩ b := by rw [hout]; rfl
      rw [hln, hR] at hjo
      replace hjo := Lib.hid hjo
      clear hbk hor hout hln htr hR
      replace hgr := Lib.hid hgr
      have hlti : ¬ (at_ : Int) < (b.length : Int) := by omega
      go_wp2_with fail
      go_at_call 19
      refine hjo.out.mono ?_
      rintro e W2 ⟨A2, c2, rfl, o2, g2⟩
      have hgz := Below.size hgr.out
      have gg : Gr w W2 := Below.trans hgr.out (Below.mono g2 hgz)
      clear hjo g2
      go_wp2
      go_ret
      exact ⟨A2, c2, rfl, OR.base_le o2 hgz, gg⟩
end Se
end Go.Proofs.Ytalkmkplmbmnkaa
namespace Go.Proofs.Ytalkmkplmbmnkaa
open Go Go.RowKit Go.Shelf W Sg Tk
namespace Se
abbrev old8 : List UInt8 := [97, 98, 99, 100, 101, 102, 103, 104]
abbrev new9 : List UInt8 := [120, 101, 102, 103, 104, 97, 98, 99, 100]
def ex3 : List Tok := [⟨0, 0, [120]⟩, ⟨1, 1, []⟩, ⟨0, 1, []⟩]
set_option maxRecDepth 100000 in
theorem ex_hunt : huntP (sigOf old8 4) new9 = ex3 := by kernel_rfl
set_option maxRecDepth 100000 in
set_option maxHeartbeats 2000000 in
theorem awake_any (w : World) : Calls Try.prog 5 #[] w fun e w' => e = .returned (.bool true) ∧ Gr w w' := by
  have kc := fun (w : World) (C : Array Value) (n c : Nat) => Lib.run_convert_bytes_const (P := Try.prog) w 22 5 C n c Try.underlying22 Try.underlying5
  have kc2 := kc (w.alloc (.cells #[.int .u8 97, .int .u8 98, .int .u8 99, .int .u8 100, .int .u8 101, .int .u8 102, .int .u8 103, .int .u8 104] 5 (8, 9)))
  simp only [World.size_alloc] at kc2
  have gw : Gr (w.alloc (.cells (bvs old8).toArray 5 (8, 9))) ((w.alloc (.cells (bvs old8).toArray 5 (8, 9))).alloc (.cells (bvs new9).toArray 5 (9, 10))) := (Gr.refl _).alloc _
  have r0 := RB.of_new w 5 old8 (8, 9)
  have r1 := RB.of_new (w.alloc (.cells (bvs old8).toArray 5 (8, 9))) 5 new9 (9, 10)
  have r0' := (r0.below (Below.mono gw (by simp))).more (Nat.le_succ _)
  have g1 := ((Gr.refl w).alloc (.cells (bvs old8).toArray 5 (8, 9))).alloc (.cells (bvs new9).toArray 5 (9, 10))
  have hsz : ((w.alloc (.cells (bvs old8).toArray 5 (8, 9))).alloc (.cells (bvs new9).toArray 5 (9, 10))).heap.size = w.heap.size + 1 + 1 := by simp
  have hde := Lib.hid (show ∀ W, Gr ((w.alloc (.cells (bvs old8).toArray 5 (8, 9))).alloc (.cells (bvs new9).toArray 5 (9, 10))) W → True from fun _ _ => trivial)
  rw [World.size_alloc] at r1
  have hdl := delta_any (some ⟨w.heap.size, 0, none⟩) (some ⟨w.heap.size + 1, 0, none⟩) 8 9 old8 new9 4 _ (by simp) (by simp) (by unfold maxLen; omega) (by rw [hsz]; exact r0') (by rw [hsz]; exact r1) (by simp) (by unfold maxLen; omega) (by simp)
  rw [ex_hunt] at hdl
  replace hdl := Lib.hid hdl
  replace g1 := Lib.hid g1
  clear r0 r1 r0' gw hsz hde kc
  have kc := fun (w : World) (C : Array Value) (n c : Nat) => Lib.run_convert_bytes_const (P := Try.prog) w 22 5 C n c Try.underlying22 Try.underlying5
  go_enter Try.func5, Try.ntmps5
  go_wp2_with fail
  go_at_call 7
  refine hdl.out.mono ?_
  rintro e W1 ⟨A1, c1, rfl, o1, g2⟩
  have G1 := Lib.hid (Gr.trans g1.out g2)
  have t1 := Lib.hid (OT.tr o1)
  have T5 := Lib.hid (TR.newN W1 48 ex3 #[.int .i64 0, .int .i64 0, .string ⟨#[120]⟩, .int .i64 1, .int .i64 1, .string ⟨#[]⟩, .int .i64 0, .int .i64 1, .string ⟨#[]⟩] rfl)
  clear hdl g1 g2 o1
  go_wp2_with fail
  go_at_call 15
  refine (same_any A1 c1 ex3 _ 3 ex3 _ ((t1.out.below ((Gr.refl W1).alloc _)).more (by rw [World.size_alloc]; omega)) (by rw [World.size_alloc]; exact T5.out) (by decide)).mono ?_
  rintro e W2 ⟨rfl, g3⟩
  have G2 := Lib.hid (Gr.trans (Gr.alloc G1.out _) g3)
  have hd : Hid (decide (ex3 = ex3) = true) := Lib.hid (by simp)
  rw [hd.out]
  clear G1 t1 T5 g3
  go_wp2
  go_ret
  exact ⟨rfl, G2.out⟩
def isTk (l : List Tok) : Ass := fun v w => ∃ A c, v = .slice A l.length c ∧ TR w w.heap.size A l
theorem isTk_lasts (l : List Tok) : Lasts (isTk l) := fun v w w' hg h => by
  obtain ⟨A, c, e, h1⟩ := h
  exact ⟨A, c, e, (h1.below hg).more (Below.size hg)⟩
def isSi (s : Sig) : Ass := fun v w => ∃ A c, v = sigV s A c ∧ SR w w.heap.size A s.bs
theorem isSi_lasts (s : Sig) : Lasts (isSi s) := fun v w w' hg h => by
  obtain ⟨A, c, e, h1⟩ := h
  exact ⟨A, c, e, (h1.below hg).more (Below.size hg)⟩
set_option maxRecDepth 100000 in
set_option maxHeartbeats 4000000 in
theorem deltas_walk (A Ab : Option Addr) (c cb : Nat) (l b : List UInt8) (size : Int) (w : World) (hc : l.length ≤ c) (hcm : c ≤ maxLen) (hr : RB w w.heap.size A l) (hcb : b.length ≤ cb) (hcmb : cb ≤ maxLen) (hrb : RB w w.heap.size Ab b) :
    Calls Try.prog 3 #[.slice A l.length c, .slice Ab b.length cb, .int .i64 size] w (Ret (eqv (.bool true)) w) := by
  have haw := Lib.hid (fun w => awake_any w)
  by_cases h1 : l.length ≤ 300
  · by_cases h2 : b.length ≤ 300
    · have hde := Lib.hid (delta_any A Ab c cb l b size w (by omega) hc hcm hr hrb hcb hcmb (by omega))
      have hrg := right_sigOf l size (by omega)
      have hfew := sig_few l size (by omega)
      have hro := Lib.hid (fun w => Sg.refOf_any l size w (by omega))
      have hlen := huntP_len (sigOf l size) b
      have heq := huntP_eq (sigOf l size) b (by omega)
      obtain ⟨s, hs⟩ : ∃ s, sigOf l size = s := ⟨_, rfl⟩
      rw [hs] at hde hrg hfew hro hlen heq
      obtain ⟨L, hL⟩ : ∃ L, huntP s b = L := ⟨_, rfl⟩
      rw [hL] at hde hlen heq
      have hrf := Lib.hid (fun A1 c1 w (h : SR w w.heap.size A1 s.bs) => refOf_r s A1 c1 b w h hrg (by omega))
      rw [← heq] at hrf
      have i1 : (l.length : Int) ≤ 300 := by omega
      have i2 : (b.length : Int) ≤ 300 := by omega
      replace hr := Lib.hid hr
      replace hrb := Lib.hid hrb
      clear hL heq hs hrg
      go_enter Try.func3, Try.ntmps3
      go_wp2_with fail
      go_at_call 7
      refine hde.out.mono ?_
      rintro e W1 ⟨A1, c1, rfl, o1, g1⟩
      have t1 := OT.tr o1
      have hfm := Lib.hid (Tk.from_any A1 c1 L W1 t1 (by omega))
      replace hr := Lib.hid ((hr.out.below g1).more (Below.size g1))
      replace hrb := Lib.hid ((hrb.out.below g1).more (Below.size g1))
      replace g1 := Lib.hid g1
      clear hde o1 t1
      go_wp2_with fail
      go_at_call 6
      refine hfm.out.mono ?_
      rintro e W2 ⟨A7, c7, rfl, o2, g2⟩
      have t7 := Lib.hid (OT.tr o2)
      replace hr := Lib.hid ((hr.out.below g2).more (Below.size g2))
      replace hrb := Lib.hid ((hrb.out.below g2).more (Below.size g2))
      have gg := Lib.hid (Gr.trans g1.out g2)
      clear hfm o2 g1 g2
      go_wp2
      refine region_grow (by kernel_rfl) (by kernel_rfl) ?_
      refine GW.call0 (eqv (.bool true)) rfl trivial rfl Try.func5 (by kernel_rfl) (by kernel_rfl) (eqv_lasts _)  (fun w' hg => ?_) ?_
      · refine (haw.out w').mono ?_
        rintro e w9 ⟨rfl, hg9⟩
        exact ⟨_, rfl, rfl, hg9⟩
      refine GW.mv rfl trivial (.inl rfl) (kn (t := 22) (j := 0) (by kernel_rfl)) (eqv_lasts _) ?_
      refine GW.mv rfl ⟨23, by kernel_rfl, by kernel_rfl, fun _ _ h => h⟩ (.inl rfl) (kn0' (t := 7) (c := .slice A7 L.length c7) (by kernel_rfl) rfl (isTk_lasts _) (⟨A7, c7, rfl, t7.out⟩)) (isTk_lasts _) ?_
      refine GW.mv rfl ⟨23, by kernel_rfl, by kernel_rfl, fun _ _ h => h⟩ (.inl rfl) (kn0' (t := 0) (c := .slice A l.length c) (by kernel_rfl) rfl (isB_lasts _) (⟨A, c, rfl, hc, hcm, hr.out⟩)) (isB_lasts _) ?_
      refine GW.bs (l) rfl ⟨23, by kernel_rfl, by kernel_rfl, fun _ _ h => h⟩ rfl Try.underlying22 Bl.byteType.1 Try.underlying9 (kn (t := 25) (j := 3) (by kernel_rfl)) ?_
      refine GW.mv rfl ⟨23, by kernel_rfl, by kernel_rfl, fun _ _ h => h⟩ (.inl rfl) (kn0 (t := 2) (c := .int .i64 size) (by kernel_rfl) rfl) (eqv_lasts _) ?_
      refine GW.call2 (isSi s) rfl ⟨23, by kernel_rfl, by kernel_rfl, fun _ _ h => h⟩ rfl Try.func10 (by kernel_rfl) (by kernel_rfl) (isSi_lasts _) (kn (t := 26) (j := 4) (by kernel_rfl)) (kn (t := 27) (j := 5) (by kernel_rfl)) (fun v u w' hg hv hu => ?_) ?_
      · obtain rfl : v = _ := hv
        obtain rfl : u = _ := hu
        refine (hro.out w').mono ?_
        rintro e w9 ⟨A9, c9, rfl, o9, hg9⟩
        exact ⟨_, rfl, ⟨A9, c9, rfl, OS.sr o9⟩, hg9⟩
      refine GW.mv rfl ⟨23, by kernel_rfl, by kernel_rfl, fun _ _ h => h⟩ (.inl rfl) (kn0' (t := 1) (c := .slice Ab b.length cb) (by kernel_rfl) rfl (isB_lasts _) (⟨Ab, cb, rfl, hcb, hcmb, hrb.out⟩)) (isB_lasts _) ?_
      refine GW.bs (b) rfl ⟨23, by kernel_rfl, by kernel_rfl, fun _ _ h => h⟩ rfl Try.underlying22 Bl.byteType.1 Try.underlying9 (kn (t := 29) (j := 7) (by kernel_rfl)) ?_
      refine GW.call2 (isTk L) rfl ⟨23, by kernel_rfl, by kernel_rfl, fun _ _ h => h⟩ rfl Try.func9 (by kernel_rfl) (by kernel_rfl) (isTk_lasts _) (kn (t := 28) (j := 6) (by kernel_rfl)) (kn (t := 30) (j := 8) (by kernel_rfl)) (fun v u w' hg hv hu => ?_) ?_
      · obtain ⟨A8, c8, rfl, q8⟩ := hv
        obtain rfl : u = _ := hu
        refine (hrf.out A8 c8 w' q8).mono ?_
        rintro e w9 ⟨A9, c9, rfl, o9, hg9⟩
        exact ⟨_, rfl, ⟨A9, c9, rfl, OT.tr o9⟩, hg9⟩
      refine GW.call2 (eqv (.bool true)) rfl ⟨23, by kernel_rfl, by kernel_rfl, fun _ _ h => h⟩ rfl Try.func8 (by kernel_rfl) (by kernel_rfl) (eqv_lasts _) (kn (t := 24) (j := 2) (by kernel_rfl)) (kn (t := 31) (j := 9) (by kernel_rfl)) (fun v u w' hg hv hu => ?_) ?_
      · obtain ⟨A8, c8, rfl, q8⟩ := hv
        obtain ⟨A9, c9, rfl, q9⟩ := hu
        refine (refSame_any A8 c8 L A9 c9 L w' q8 q9 (by omega)).mono ?_
        rw [same_self]
        rintro e w9 ⟨rfl, hg9⟩
        exact ⟨_, rfl, rfl, hg9⟩
      refine GW.pick (b := true) rfl trivial rfl (kn (t := 23) (j := 1) (by kernel_rfl)) (kn (t := 32) (j := 10) (by kernel_rfl)) (eqv_lasts _) ?_
      refine GW.mv rfl trivial (.inr rfl) (kn (t := 33) (j := 11) (by kernel_rfl)) (eqv_lasts _) ?_
      refine GW.done (by simp) (by kernel_rfl) (fun w' hg => ?_)
      rintro v0 - v1 - v2 - v3 - v4 - v5 - v6 - v7 - v8 - v9 - v10 - v11 - v12 h12
      obtain rfl : v12 = (.bool true) := h12
      simp only [GFin, Act.put, List.setIfInBounds_toArray, List.set_cons_succ, List.set_cons_zero]
      go_wp2
      go_ret
      exact ⟨_, rfl, rfl, Gr.trans gg.out hg⟩
    · have i1 : (l.length : Int) ≤ 300 := by omega
      have i2 : ¬ (b.length : Int) ≤ 300 := by omega
      clear hr hrb
      go_enter Try.func3, Try.ntmps3
      go_wp2_with fail
      go_at_call 5
      refine (haw.out _).mono ?_
      rintro e W1 ⟨rfl, g1⟩
      go_wp2
      go_ret
      exact ⟨_, rfl, rfl, g1⟩
  · have i1 : ¬ (l.length : Int) ≤ 300 := by omega
    clear hr hrb
    go_enter Try.func3, Try.ntmps3
    go_wp2_with fail
    go_at_call 5
    refine (haw.out _).mono ?_
    rintro e W1 ⟨rfl, g1⟩
    go_wp2
    go_ret
    exact ⟨_, rfl, rfl, g1⟩
end Se
end Go.Proofs.Ytalkmkplmbmnkaa
