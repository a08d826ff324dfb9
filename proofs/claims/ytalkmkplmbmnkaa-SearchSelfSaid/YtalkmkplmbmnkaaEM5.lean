/- Texts that the law rests on, merged. No condition. -/
import Derived.Test.YtalkmkplmbmnkaaEM1
import Derived.Test.YtalkmkplmbmnkaaEM2
import Derived.Test.YtalkmkplmbmnkaaEM3
import Derived.Test.YtalkmkplmbmnkaaEM4
import Derived.BigQuiet
import Derived.KernelRfl
set_option linter.unusedVariables false
set_option linter.unusedSimpArgs false
namespace Go.Proofs.Ytalkmkplmbmnkaa
open Go Go.RowKit Go.Shelf W Sg Tk
theorem run_str2 {P : Program} {w : World} {T : TypeId} (hT : P.underlying T = some .string) (b : List UInt8) (k k' : IntKind) (f t : Nat) (hft : f ≤ t) (htl : t ≤ b.length) :
    (Instr.sliceAt T (str b) (some (.int k (f : Int))) (some (.int k' (t : Int))) none).run P w = .ok (str ((b.drop f).take (t - f))) w := by
  have h1 : (f : Int) ≤ (t : Int) := by omega
  have h2 : (t : Int) ≤ (b.length : Int) := by omega
  have hs : (⟨b.toArray⟩ : ByteArray).size = b.length := by simp [ByteArray.size]
  simp [Instr.sliceAt, Instr.slice, Instr.sliceBounds, Instr.sliceBound, run_underlying hT, asIntOf, hs, hft, htl, ByteArray.extract_mk]
theorem run_str1 {P : Program} {w : World} {T : TypeId} (hT : P.underlying T = some .string) (b : List UInt8) (k : IntKind) (f : Nat) (hft : f ≤ b.length) :
    (Instr.sliceAt T (str b) (some (.int k (f : Int))) none none).run P w = .ok (str (b.drop f)) w := by
  have h1 : (f : Int) ≤ (b.length : Int) := by omega
  have hs : (⟨b.toArray⟩ : ByteArray).size = b.length := by simp [ByteArray.size]
  simp [Instr.sliceAt, Instr.slice, Instr.sliceBounds, Instr.sliceBound, run_underlying hT, asIntOf, hs, hft, ByteArray.extract_mk]
  exact List.take_of_length_le (by rw [List.length_drop]; omega)
theorem res_str2 {P : Program} {w : World} {T : TypeId} {o : Oper} {a : Act} {b : List UInt8} {k k' : IntKind} {f n : Nat} (x y z : Operand) (hT : P.underlying T = some .string) (ho : o.op = .slice T x (some y) (some z) none)
    (h1 : a.eval x = str b) (h2 : a.eval y = .int k (f : Int)) (h3 : a.eval z = .int k' ((f + n : Nat) : Int)) (htl : f + n ≤ b.length) : Res P (execOp a.eval o) (eqv (str ((b.drop f).take n))) w := by
  refine .here (v := str ((b.drop f).take n)) ?_ rfl
  have := run_str2 (P := P) (w := w) hT b k k' f (f + n) (by omega) htl
  rw [Nat.add_sub_cancel_left] at this
  simp only [execOp, ho, h1, Option.map_some, Option.map_none, h2, h3]
  rw [Sem.run_bind, this]
  rfl
theorem res_str1 {P : Program} {w : World} {T : TypeId} {o : Oper} {a : Act} {b : List UInt8} {k : IntKind} {f : Nat} (x y : Operand) (hT : P.underlying T = some .string) (ho : o.op = .slice T x (some y) none none)
    (h1 : a.eval x = str b) (h2 : a.eval y = .int k (f : Int)) (hft : f ≤ b.length) : Res P (execOp a.eval o) (eqv (str (b.drop f))) w := by
  refine .here (v := str (b.drop f)) ?_ rfl
  simp only [execOp, ho, h1, Option.map_some, Option.map_none, h2]
  rw [Sem.run_bind, run_str1 hT b k f hft]
  rfl
namespace Se
theorem findF_right {s : Sig} {b : List UInt8} (hr : Sg.right s = true) : ∀ (n at_ : Nat) (next : Int), ∀ x ∈ findF s b n at_ next, Tk.right x = true := by
  have hbs := (Sg.right_spec hr).2.2.1
  intro n
  induction n with
  | zero => intro at_ next x hx; simp [findF] at hx
  | succ n ih =>
    intro at_ next x hx
    unfold findF at hx
    by_cases h0 : b.length ≤ at_
    · rw [if_pos h0] at hx; cases hx
    · rw [if_neg h0] at hx
      cases e : stepP s b at_ next with
      | none =>
        rw [e] at hx
        rcases List.mem_cons.1 hx with rfl | hx
        · have hd : ((b.drop at_).take 1).length = 1 := by rw [List.length_take, List.length_drop]; omega
          exact right_lit (by intro h; rw [h] at hd; cases hd) (by omega)
        · exact ih _ _ x hx
      | some q =>
        obtain ⟨k, m⟩ := q
        have hk := (step_pos e).2.2
        rw [e] at hx
        rcases List.mem_cons.1 hx with rfl | hx
        · exact copy_right (by omega)
        · exact ih _ _ x hx
/-- The reference's search, at a place. -/
def RSt (w : World) (s : Sig) (A1 : Option Addr) (c1 : Nat) (b : List UInt8) (at_ n : Nat) (next : Int) (out : List Tok) (A0 : Option Addr) (c0 : Nat) (W : World) : Prop :=
  out.length = n ∧ out ++ findP s b at_ next = findP s b 0 (-1) ∧ OR 52 3 W (w.heap.size + 1) (.slice A0 n c0) n (tcs out) ∧
  Blk W w.heap.size 38 (sigC s.size (.slice A1 s.bs.length c1) s.tail s.last) ∧ Gr w W
set_option maxRecDepth 100000 in
set_option maxHeartbeats 8000000 in
theorem refOf_r (s : Sig) (A1 : Option Addr) (c1 : Nat) (b : List UInt8) (w : World) (hsr : SR w w.heap.size A1 s.bs) (hrt : Sg.right s = true) (hbl : b.length ≤ 16384) :
    Calls Try.prog 9 #[sigV s A1 c1, str b] w (OutT 52 w (refOf s b)) := by
  obtain ⟨z1, z2, z3, z4⟩ := right_pos hrt
  have zb := (Sg.right_spec hrt).2.2.1
  obtain ⟨z, bs, t, x⟩ := s
  simp only at z1 z2 z3 z4 zb hsr
  obtain ⟨sz, rfl⟩ : ∃ k : Nat, z = (k : Int) := ⟨z.toNat, by omega⟩
  obtain ⟨tl, rfl⟩ : ∃ k : Nat, t = (k : Int) := ⟨t.toNat, by omega⟩
  have hri := Lib.hid (fun w => Sg.refRight_any (⟨(sz : Int), bs, (tl : Int), x⟩ : Sig) A1 c1 w)
  rw [hrt] at hri
  replace hrt := Lib.hid hrt
  have b0 := Blk.new w 38 (sigC (sz : Int) (.slice A1 bs.length c1) (tl : Int) x)
  have g0 := (Gr.refl w).alloc (.cells (sigC (sz : Int) (.slice A1 bs.length c1) (tl : Int) x) 38)
  replace hsr := Lib.hid hsr
  replace b0 := Lib.hid b0
  replace g0 := Lib.hid g0
  go_enter Try.func9, Try.ntmps9
  go_wp2
  generalize (w.alloc (.cells (sigC (sz : Int) (.slice A1 bs.length c1) (tl : Int) x) 38)) = w1 at b0 g0 ⊢
  go_loopw [5, 6, 7] (fun v5 v6 v7 wr => ∃ (at_ n : Nat) (next : Int) (out : List Tok) (A0 : Option Addr) (c0 : Nat), at_ ≤ b.length ∧ n ≤ at_ ∧ -1 ≤ next ∧ next ≤ 4097 ∧ v5 = .slice A0 n c0 ∧ v6 = .int .i64 next ∧ v7 = .int .i64 (at_ : Int) ∧ Hid (RSt w ⟨(sz : Int), bs, (tl : Int), x⟩ A1 c1 b at_ n next out A0 c0 wr)) (fun _ _ v7 _ => b.length - (intOf v7).toNat)
  case atStart => exact ⟨0, 0, -1, [], none, 0, by omega, by omega, by omega, by omega, rfl, rfl, rfl, Lib.hid ⟨rfl, by rw [List.nil_append], World.ownsRow_nil _ _ _ _, b0.out, g0.out⟩⟩
  case round =>
    clear b0 g0
    obtain ⟨at_, n, next, out, A0, c0, ha, hna, hx1, hx2, rfl, rfl, rfl, hst⟩ := hrel
    obtain ⟨hln, hout, hor, hbk, hgr⟩ := hst.out
    clear hst
    simp only at hbk
    have hws : w.heap.size < wr.heap.size := hbk.lt
    by_cases hlt : at_ < b.length
    · have y0 := hbk.cell 0
      have y1 := hbk.cell 1
      have y2 := hbk.cell 2
      have y3 := hbk.cell 3
      have y4 := hbk.cell 4
      have y5 := hbk.cell 5
      replace hbk := Lib.hid hbk
      replace hgr := Lib.hid hgr
      replace hor := Lib.hid hor
      replace hout := Lib.hid hout
      replace hln := Lib.hid hln
      have hlti : (at_ : Int) < (b.length : Int) := by omega
      have kw1 : IntKind.i64.wrap ((b.length : Int) - (at_ : Int)) = (b.length : Int) - (at_ : Int) := IntWalk.i64_in _ (by omega)
      go_wp2_with fail
      go_at_call 16
      refine (hri.out _).mono ?_
      rintro e W1 ⟨rfl, g1⟩
      clear y0 y1 y2 y3 y4 y5
      replace hbk := Lib.hid (blk_more hbk.out g1)
      replace hgr := Lib.hid (Below.trans hgr.out (Below.mono g1 (Below.size hgr.out)))
      replace hor := Lib.hid (OR.below hor.out g1)
      have hws1 : w.heap.size < W1.heap.size := hbk.out.lt
      have y0 := hbk.out.cell 0
      clear hws g1
      by_cases hge : (sz : Int) ≤ (b.length : Int) - (at_ : Int)
      · go_wp2
        refine region_grow rfl (by kernel_rfl) ?_
        refine GW.p1 (.agg #[.int .i64 (sz : Int), .slice A1 bs.length c1, .int .i64 (tl : Int), .int .u32 (n32 x.1), .int .u64 (n64 x.2.1), .int .u64 (n64 x.2.2)]) rfl trivial (kn0 (t := 2) (c := .pointer (some ⟨w.heap.size, 0, none⟩)) (by kernel_rfl) rfl) (fun ρ w' hρ hg => by simp [execOp, hρ, go_sem, (hg.cell (p := ⟨w.heap.size, 0, none⟩) hbk.out.lt).trans (hbk.out.cell 0), (hg.cell (p := ⟨w.heap.size, 1, none⟩) hbk.out.lt).trans (hbk.out.cell 1), (hg.cell (p := ⟨w.heap.size, 2, none⟩) hbk.out.lt).trans (hbk.out.cell 2), (hg.cell (p := ⟨w.heap.size, 3, none⟩) hbk.out.lt).trans (hbk.out.cell 3), (hg.cell (p := ⟨w.heap.size, 4, none⟩) hbk.out.lt).trans (hbk.out.cell 4), (hg.cell (p := ⟨w.heap.size, 5, none⟩) hbk.out.lt).trans (hbk.out.cell 5)]) ?_
        refine GW.mv rfl trivial (.inl rfl) (kn0 (t := 1) (c := str b) (by kernel_rfl) rfl) (eqv_lasts _) ?_
        refine GW.mv rfl trivial (.inl rfl) (kn0 (t := 7) (c := .int .i64 (at_ : Int)) (by kernel_rfl) rfl) (eqv_lasts _) ?_
        refine GW.mv rfl trivial (.inl rfl) (kn0 (t := 7) (c := .int .i64 (at_ : Int)) (by kernel_rfl) rfl) (eqv_lasts _) ?_
        refine GW.mv rfl trivial (.inl rfl) (kn0 (t := 9) (c := .int .i64 (sz : Int)) (by kernel_rfl) rfl) (eqv_lasts _) ?_
        refine GW.bin (.int .i64 ((at_ + sz : Nat) : Int)) rfl trivial rfl (kn (t := 30) (j := 3) (by kernel_rfl)) (kn (t := 31) (j := 4) (by kernel_rfl)) (fun w' => by simp [go_sem, IntKind.wrap_i64]; omega) ?_
        refine GW.op (eqv (str ((b.drop at_).take sz))) rfl (eqv_lasts _) trivial (fun a w' hg hkn => ?_) ?_
        · have h1 : a.eval (.tmp 28) = str b := (kn (t := 28) (j := 1) (by kernel_rfl)) a w' hg hkn
          have h2 : a.eval (.tmp 29) = .int .i64 (at_ : Int) := (kn (t := 29) (j := 2) (by kernel_rfl)) a w' hg hkn
          have h3 : a.eval (.tmp 32) = .int .i64 ((at_ + sz : Nat) : Int) := (kn (t := 32) (j := 5) (by kernel_rfl)) a w' hg hkn
          exact res_str2 (.tmp 28) (.tmp 29) (.tmp 32) Try.underlying9 rfl h1 h2 h3 (by omega)
        refine GW.call1 (eqv (sV (sign ((b.drop at_).take sz)))) rfl trivial rfl Try.func18 (by kernel_rfl) (by kernel_rfl) (eqv_lasts _) (kn (t := 33) (j := 6) (by kernel_rfl)) (fun v w' hg hv => ?_) ?_
        · obtain rfl : v = _ := hv
          refine (Sg.refSignOf_any ((b.drop at_).take sz) w' (by rw [List.length_take, List.length_drop]; omega)).mono ?_
          rintro e w9 ⟨rfl, hg9⟩
          exact ⟨_, rfl, rfl, hg9⟩
        refine GW.mv rfl trivial (.inl rfl) (kn0 (t := 6) (c := .int .i64 next) (by kernel_rfl) rfl) (eqv_lasts _) ?_
        refine GW.call3 (eqv (.int .i64 (whichI (whichP bs (sign ((b.drop at_).take sz)) next)))) rfl trivial rfl Try.func17 (by kernel_rfl) (by kernel_rfl) (eqv_lasts _) (kn (t := 27) (j := 0) (by kernel_rfl)) (kn (t := 34) (j := 7) (by kernel_rfl)) (kn (t := 35) (j := 8) (by kernel_rfl)) (fun v u s w' hg hv hu hs' => ?_) ?_
        · obtain rfl : v = _ := hv
          obtain rfl : u = _ := hu
          obtain rfl : s = _ := hs'
          refine (refWhich_any (⟨(sz : Int), bs, (tl : Int), x⟩ : Sig) A1 c1 (sign ((b.drop at_).take sz)) next w' (by have h := hsr.out.below (Below.trans hgr.out (Below.mono hg (Below.size hgr.out))); exact h.more (Nat.le_trans (Nat.le_of_lt hws1) (Below.size hg))) (by simp only; omega)).mono ?_
          rintro e w9 ⟨rfl, hg9⟩
          exact ⟨_, rfl, rfl, hg9⟩
        refine GW.mv rfl trivial (.inr rfl) (kn (t := 36) (j := 9) (by kernel_rfl)) (eqv_lasts _) ?_
        refine GW.done (by simp) (by kernel_rfl) (fun w' hg => ?_)
        rintro v0 - v1 - v2 - v3 - v4 - v5 - v6 - v7 - v8 - v9 - v10 h10
        obtain rfl : v10 = (.int .i64 (whichI (whichP bs (sign ((b.drop at_).take sz)) next))) := h10
        simp only [GFin, Act.put, List.setIfInBounds_toArray, List.set_cons_succ, List.set_cons_zero]
        replace hbk := Lib.hid (blk_more hbk.out hg)
        replace hgr := Lib.hid (Below.trans hgr.out (Below.mono hg (Below.size hgr.out)))
        replace hor := Lib.hid (OR.below hor.out hg)
        have hws2 : w.heap.size < w'.heap.size := hbk.out.lt
        clear hg y0 hws1
        cases hq : whichP bs (sign ((b.drop at_).take sz)) next with
        | none =>
          have hst : stepP ⟨(sz : Int), bs, (tl : Int), x⟩ b at_ next = none := by
            unfold stepP
            rw [if_pos ⟨hrt.out, hge⟩]
            simp only [Int.toNat_natCast, hq, Option.map_none]
          dsimp only [whichI]
          have hfp := Lib.hid (show (out ++ [(⟨0, 0, (b.drop at_).take 1⟩ : Tok)]) ++ findP (⟨(sz : Int), bs, (tl : Int), x⟩ : Sig) b (at_ + 1) ((-1)) = findP (⟨(sz : Int), bs, (tl : Int), x⟩ : Sig) b 0 (-1) by rw [← hout.out, findP_none (s := (⟨(sz : Int), bs, (tl : Int), x⟩ : Sig)) hlt hst, List.append_assoc]; rfl)
          have kw3 : IntKind.i64.wrap ((at_ : Int) + 1) = (at_ : Int) + 1 := IntWalk.i64_in _ (by omega)
          have kn1 : at_ + 1 - at_ = 1 := by omega
          have htn := Lib.hid (TR.new1 w' 52 (⟨0, 0, (b.drop at_).take 1⟩ : Tok))
          clear hst hout
          try clear hq
          have y1 := hbk.out.cell 1
          have y2 := hbk.out.cell 2
          go_wp2_with (first
            | ((with_reducible refine wpList_isApp (.tmp 79) (.tmp 86) 24 rfl ?_); refine wpList_append_rowsN (base := w.heap.size + 1) (v := .slice A0 n c0) rfl (.tmp 79) (.tmp 86) 24 rfl Try.underlying24 refRow rfl (by exact (World.ownsRow.alloc hor.out _)) (w'.heap.size + 1) (some ⟨w'.heap.size, 0, none⟩) 1 1 (tcs [(⟨0, 0, (b.drop at_).take 1⟩ : Tok)]) rfl (by exact htn.out) (tcs_one_cell _) (by unfold maxLen; omega) (by omega) (by rw [World.size_alloc]; omega) (tcs (out ++ [(⟨0, 0, (b.drop at_).take 1⟩ : Tok)])) (tcs_append _ _) (n + 1) rfl ?_; intro A9 c9 w9 o9 b9; replace o9 := Lib.hid o9; replace b9 := Lib.hid b9; clear hor htn))
          have gA := (Gr.refl w').alloc (.cells #[.int .i64 0, .int .i64 0, .string ⟨((b.drop at_).take 1).toArray⟩] 52)
          have bk9 : Blk w9 w.heap.size 38 _ := (blk_more hbk.out gA).below b9.out (by omega)
          have gr9 : Gr w w9 := Below.trans (Below.trans hgr.out (Below.mono gA (Below.size hgr.out))) (b9.out.mono (by omega))
          exact ⟨⟨at_ + 1, n + 1, (-1), out ++ [(⟨0, 0, (b.drop at_).take 1⟩ : Tok)], A9, c9, by omega, by omega, by omega, by omega, rfl, by go_num, by go_num, Lib.hid ⟨by rw [List.length_append, hln.out]; rfl, hfp.out, o9.out, bk9, gr9⟩⟩, by simp [intOf]; omega⟩
        | some k =>
          have hst : stepP ⟨(sz : Int), bs, (tl : Int), x⟩ b at_ next = some (k, sz) := by
            unfold stepP
            rw [if_pos ⟨hrt.out, hge⟩]
            simp only [Int.toNat_natCast, hq, Option.map_some]
          dsimp only [whichI]
          obtain ⟨hp1, hp2, hp3⟩ := step_pos hst
          simp only at hp3
          have hfp := Lib.hid (show (out ++ [(⟨((k : Nat) : Int), 1, []⟩ : Tok)]) ++ findP (⟨(sz : Int), bs, (tl : Int), x⟩ : Sig) b (at_ + sz) (((k : Nat) : Int) + 1) = findP (⟨(sz : Int), bs, (tl : Int), x⟩ : Sig) b 0 (-1) by rw [← hout.out, findP_some (s := (⟨(sz : Int), bs, (tl : Int), x⟩ : Sig)) hlt hst, List.append_assoc]; rfl)
          have kge : (0 : Int) ≤ ((k : Nat) : Int) := by omega
          have kw2 : IntKind.i64.wrap (((k : Nat) : Int) + 1) = ((k : Nat) : Int) + 1 := IntWalk.i64_in _ (by omega)
          have kw3 : IntKind.i64.wrap ((at_ : Int) + (sz : Int)) = (at_ : Int) + (sz : Int) := IntWalk.i64_in _ (by omega)
          have htn := Lib.hid (TR.new1 w' 52 (⟨((k : Nat) : Int), 1, []⟩ : Tok))
          clear hst hout
          try clear hq
          have y1 := hbk.out.cell 1
          have y2 := hbk.out.cell 2
          go_wp2_with (first
            | ((with_reducible refine wpList_isApp (.tmp 69) (.tmp 72) 24 rfl ?_); refine wpList_append_rowsN (base := w.heap.size + 1) (v := .slice A0 n c0) rfl (.tmp 69) (.tmp 72) 24 rfl Try.underlying24 refRow rfl (by exact (World.ownsRow.alloc hor.out _)) (w'.heap.size + 1) (some ⟨w'.heap.size, 0, none⟩) 1 1 (tcs [(⟨((k : Nat) : Int), 1, []⟩ : Tok)]) rfl (by exact htn.out) (tcs_one_cell _) (by unfold maxLen; omega) (by omega) (by rw [World.size_alloc]; omega) (tcs (out ++ [(⟨((k : Nat) : Int), 1, []⟩ : Tok)])) (tcs_append _ _) (n + 1) rfl ?_; intro A9 c9 w9 o9 b9; replace o9 := Lib.hid o9; replace b9 := Lib.hid b9; clear hor htn))
          have gA := (Gr.refl w').alloc (.cells #[.int .i64 ((k : Nat) : Int), .int .i64 1, .string ⟨#[]⟩] 52)
          have bk9 : Blk w9 w.heap.size 38 _ := (blk_more hbk.out gA).below b9.out (by omega)
          have gr9 : Gr w w9 := Below.trans (Below.trans hgr.out (Below.mono gA (Below.size hgr.out))) (b9.out.mono (by omega))
          exact ⟨⟨at_ + sz, n + 1, ((k : Nat) : Int) + 1, out ++ [(⟨((k : Nat) : Int), 1, []⟩ : Tok)], A9, c9, by omega, by omega, by omega, by omega, rfl, by go_num, by go_num, Lib.hid ⟨by rw [List.length_append, hln.out]; rfl, hfp.out, o9.out, bk9, gr9⟩⟩, by simp [intOf]; omega⟩
      · have hge' := hge
        by_cases c1' : 0 < tl
        · by_cases c2' : (b.length : Int) - (at_ : Int) = (tl : Int)
          · by_cases c3' : sign (b.drop at_) = x
            · have hst : stepP ⟨(sz : Int), bs, (tl : Int), x⟩ b at_ next = some (bs.length, tl) := by
                unfold stepP
                rw [if_neg (fun h => hge h.2), if_pos ⟨hrt.out, by simp only; omega, c2', c3'⟩]
                rfl
              have q3 : (sign (b.drop at_) == x) = true := by rw [c3']; simp
              have q2 : ((b.length : Int) - (at_ : Int) == (tl : Int)) = true := by rw [c2']; simp
              go_wp2
              refine region_grow rfl (by kernel_rfl) ?_
              refine GW.p1 (.agg #[.int .i64 (sz : Int), .slice A1 bs.length c1, .int .i64 (tl : Int), .int .u32 (n32 x.1), .int .u64 (n64 x.2.1), .int .u64 (n64 x.2.2)]) rfl trivial (kn0 (t := 2) (c := .pointer (some ⟨w.heap.size, 0, none⟩)) (by kernel_rfl) rfl) (fun ρ w' hρ hg => by simp [execOp, hρ, go_sem, (hg.cell (p := ⟨w.heap.size, 0, none⟩) hbk.out.lt).trans (hbk.out.cell 0), (hg.cell (p := ⟨w.heap.size, 1, none⟩) hbk.out.lt).trans (hbk.out.cell 1), (hg.cell (p := ⟨w.heap.size, 2, none⟩) hbk.out.lt).trans (hbk.out.cell 2), (hg.cell (p := ⟨w.heap.size, 3, none⟩) hbk.out.lt).trans (hbk.out.cell 3), (hg.cell (p := ⟨w.heap.size, 4, none⟩) hbk.out.lt).trans (hbk.out.cell 4), (hg.cell (p := ⟨w.heap.size, 5, none⟩) hbk.out.lt).trans (hbk.out.cell 5)]) ?_
              refine GW.call1 (eqv (.bool true)) rfl trivial rfl Try.func16 (by kernel_rfl) (by kernel_rfl) (eqv_lasts _) (kn (t := 37) (j := 0) (by kernel_rfl)) (fun v w' hg hv => ?_) ?_
              · obtain rfl : v = _ := hv
                refine (hri.out w').mono ?_
                rintro e w9 ⟨rfl, hg9⟩
                exact ⟨_, rfl, rfl, hg9⟩
              refine GW.mv rfl trivial (.inl rfl) (kn (t := 38) (j := 1) (by kernel_rfl)) (eqv_lasts _) ?_
              refine GW.p1 (.pointer (some ⟨w.heap.size, 2, none⟩)) rfl ⟨39, by kernel_rfl, by kernel_rfl, fun _ _ h => h⟩ (kn0 (t := 2) (c := .pointer (some ⟨w.heap.size, 0, none⟩)) (by kernel_rfl) rfl) (fun ρ w' hρ hg => by simp [execOp, hρ, go_sem]) ?_
              refine GW.p1 (.int .i64 (tl : Int)) rfl ⟨39, by kernel_rfl, by kernel_rfl, fun _ _ h => h⟩ (kn (t := 40) (j := 3) (by kernel_rfl)) (fun ρ w' hρ hg => by simp [execOp, hρ, go_sem, (hg.cell (p := ⟨w.heap.size, 2, none⟩) hbk.out.lt).trans (hbk.out.cell 2)]) ?_
              refine GW.bin (.bool true) rfl ⟨39, by kernel_rfl, by kernel_rfl, fun _ _ h => h⟩ rfl (kn (t := 41) (j := 4) (by kernel_rfl)) knc (fun w' => by simp [go_sem] <;> omega) ?_
              refine GW.pick (b := true) rfl trivial rfl (kn (t := 39) (j := 2) (by kernel_rfl)) (kn (t := 42) (j := 5) (by kernel_rfl)) (eqv_lasts _) ?_
              refine GW.mv rfl trivial (.inl rfl) (kn (t := 43) (j := 6) (by kernel_rfl)) (eqv_lasts _) ?_
              refine GW.mv rfl ⟨44, by kernel_rfl, by kernel_rfl, fun _ _ h => h⟩ (.inl rfl) (kn0 (t := 1) (c := str b) (by kernel_rfl) rfl) (eqv_lasts _) ?_
              refine GW.lenS b rfl ⟨44, by kernel_rfl, by kernel_rfl, fun _ _ h => h⟩ rfl Try.underlying9 (kn (t := 45) (j := 8) (by kernel_rfl)) ?_
              refine GW.mv rfl ⟨44, by kernel_rfl, by kernel_rfl, fun _ _ h => h⟩ (.inl rfl) (kn0 (t := 7) (c := .int .i64 (at_ : Int)) (by kernel_rfl) rfl) (eqv_lasts _) ?_
              refine GW.bin (.int .i64 ((b.length : Int) - (at_ : Int))) rfl ⟨44, by kernel_rfl, by kernel_rfl, fun _ _ h => h⟩ rfl (kn (t := 46) (j := 9) (by kernel_rfl)) (kn (t := 47) (j := 10) (by kernel_rfl)) (fun w' => by simp [go_sem, kw1]) ?_
              refine GW.p1 (.pointer (some ⟨w.heap.size, 2, none⟩)) rfl ⟨44, by kernel_rfl, by kernel_rfl, fun _ _ h => h⟩ (kn0 (t := 2) (c := .pointer (some ⟨w.heap.size, 0, none⟩)) (by kernel_rfl) rfl) (fun ρ w' hρ hg => by simp [execOp, hρ, go_sem]) ?_
              refine GW.p1 (.int .i64 (tl : Int)) rfl ⟨44, by kernel_rfl, by kernel_rfl, fun _ _ h => h⟩ (kn (t := 49) (j := 12) (by kernel_rfl)) (fun ρ w' hρ hg => by simp [execOp, hρ, go_sem, (hg.cell (p := ⟨w.heap.size, 2, none⟩) hbk.out.lt).trans (hbk.out.cell 2)]) ?_
              refine GW.bin (.bool true) rfl ⟨44, by kernel_rfl, by kernel_rfl, fun _ _ h => h⟩ rfl (kn (t := 48) (j := 11) (by kernel_rfl)) (kn (t := 50) (j := 13) (by kernel_rfl)) (fun w' => by simp [go_sem] <;> omega) ?_
              refine GW.pick (b := true) rfl trivial rfl (kn (t := 44) (j := 7) (by kernel_rfl)) (kn (t := 51) (j := 14) (by kernel_rfl)) (eqv_lasts _) ?_
              refine GW.mv rfl trivial (.inl rfl) (kn (t := 52) (j := 15) (by kernel_rfl)) (eqv_lasts _) ?_
              refine GW.mv rfl ⟨53, by kernel_rfl, by kernel_rfl, fun _ _ h => h⟩ (.inl rfl) (kn0 (t := 1) (c := str b) (by kernel_rfl) rfl) (eqv_lasts _) ?_
              refine GW.mv rfl ⟨53, by kernel_rfl, by kernel_rfl, fun _ _ h => h⟩ (.inl rfl) (kn0 (t := 7) (c := .int .i64 (at_ : Int)) (by kernel_rfl) rfl) (eqv_lasts _) ?_
              refine GW.op (eqv (str (b.drop at_))) rfl (eqv_lasts _) ⟨53, by kernel_rfl, by kernel_rfl, fun _ _ h => h⟩ (fun a w' hg hkn => ?_) ?_
              · have h1 : a.eval (.tmp 54) = str b := (kn (t := 54) (j := 17) (by kernel_rfl)) a w' hg hkn
                have h2 : a.eval (.tmp 55) = .int .i64 (at_ : Int) := (kn (t := 55) (j := 18) (by kernel_rfl)) a w' hg hkn
                exact res_str1 (.tmp 54) (.tmp 55) Try.underlying9 rfl h1 h2 (by omega)
              refine GW.call1 (eqv (sV (sign (b.drop at_)))) rfl ⟨53, by kernel_rfl, by kernel_rfl, fun _ _ h => h⟩ rfl Try.func18 (by kernel_rfl) (by kernel_rfl) (eqv_lasts _) (kn (t := 56) (j := 19) (by kernel_rfl)) (fun v w' hg hv => ?_) ?_
              · obtain rfl : v = _ := hv
                refine (Sg.refSignOf_any (b.drop at_) w' (by rw [List.length_drop]; omega)).mono ?_
                rintro e w9 ⟨rfl, hg9⟩
                exact ⟨_, rfl, rfl, hg9⟩
              refine GW.p1 (.pointer (some ⟨w.heap.size, 3, none⟩)) rfl ⟨53, by kernel_rfl, by kernel_rfl, fun _ _ h => h⟩ (kn0 (t := 2) (c := .pointer (some ⟨w.heap.size, 0, none⟩)) (by kernel_rfl) rfl) (fun ρ w' hρ hg => by simp [execOp, hρ, go_sem]) ?_
              refine GW.p1 (.agg #[.int .u32 (n32 x.1), .int .u64 (n64 x.2.1), .int .u64 (n64 x.2.2)]) rfl ⟨53, by kernel_rfl, by kernel_rfl, fun _ _ h => h⟩ (kn (t := 58) (j := 21) (by kernel_rfl)) (fun ρ w' hρ hg => by simp [execOp, hρ, go_sem, (hg.cell (p := ⟨w.heap.size, 3, none⟩) hbk.out.lt).trans (hbk.out.cell 3), (hg.cell (p := ⟨w.heap.size, 4, none⟩) hbk.out.lt).trans (hbk.out.cell 4), (hg.cell (p := ⟨w.heap.size, 5, none⟩) hbk.out.lt).trans (hbk.out.cell 5)]) ?_
              refine GW.bin (.bool true) rfl ⟨53, by kernel_rfl, by kernel_rfl, fun _ _ h => h⟩ rfl (kn (t := 57) (j := 20) (by kernel_rfl)) (kn (t := 59) (j := 22) (by kernel_rfl)) (fun w' => (q3 ▸ (run_eql_sign _ (.inr rfl) (sign (b.drop at_)) x _ _ w').1)) ?_
              refine GW.pick (b := true) rfl trivial rfl (kn (t := 53) (j := 16) (by kernel_rfl)) (kn (t := 60) (j := 23) (by kernel_rfl)) (eqv_lasts _) ?_
              refine GW.done (by simp) (by kernel_rfl) (fun w' hg => ?_)
              rintro v0 - v1 - v2 - v3 - v4 - v5 - v6 - v7 - v8 - v9 - v10 - v11 - v12 - v13 - v14 - v15 - v16 - v17 - v18 - v19 - v20 - v21 - v22 - v23 - v24 h24
              obtain rfl : v24 = (.bool true) := h24
              simp only [GFin, Act.put, List.setIfInBounds_toArray, List.set_cons_succ, List.set_cons_zero]
              replace hbk := Lib.hid (blk_more hbk.out hg)
              replace hgr := Lib.hid (Below.trans hgr.out (Below.mono hg (Below.size hgr.out)))
              replace hor := Lib.hid (OR.below hor.out hg)
              have hws2 : w.heap.size < w'.heap.size := hbk.out.lt
              clear hg y0 hws1
              obtain ⟨hp1, hp2, hp3⟩ := step_pos hst
              simp only at hp3
              have hfp := Lib.hid (show (out ++ [(⟨((bs.length : Nat) : Int), 1, []⟩ : Tok)]) ++ findP (⟨(sz : Int), bs, (tl : Int), x⟩ : Sig) b (at_ + tl) (((bs.length : Nat) : Int) + 1) = findP (⟨(sz : Int), bs, (tl : Int), x⟩ : Sig) b 0 (-1) by rw [← hout.out, findP_some (s := (⟨(sz : Int), bs, (tl : Int), x⟩ : Sig)) hlt hst, List.append_assoc]; rfl)
              have kge : (0 : Int) ≤ ((bs.length : Nat) : Int) := by omega
              have kw2 : IntKind.i64.wrap (((bs.length : Nat) : Int) + 1) = ((bs.length : Nat) : Int) + 1 := IntWalk.i64_in _ (by omega)
              have kw3 : IntKind.i64.wrap ((at_ : Int) + (tl : Int)) = (at_ : Int) + (tl : Int) := IntWalk.i64_in _ (by omega)
              have htn := Lib.hid (TR.new1 w' 52 (⟨((bs.length : Nat) : Int), 1, []⟩ : Tok))
              clear hst hout
              try clear hq
              have y1 := hbk.out.cell 1
              have y2 := hbk.out.cell 2
              go_wp2_with (first
                | ((with_reducible refine wpList_isApp (.tmp 69) (.tmp 72) 24 rfl ?_); refine wpList_append_rowsN (base := w.heap.size + 1) (v := .slice A0 n c0) rfl (.tmp 69) (.tmp 72) 24 rfl Try.underlying24 refRow rfl (by exact (World.ownsRow.alloc hor.out _)) (w'.heap.size + 1) (some ⟨w'.heap.size, 0, none⟩) 1 1 (tcs [(⟨((bs.length : Nat) : Int), 1, []⟩ : Tok)]) rfl (by exact htn.out) (tcs_one_cell _) (by unfold maxLen; omega) (by omega) (by rw [World.size_alloc]; omega) (tcs (out ++ [(⟨((bs.length : Nat) : Int), 1, []⟩ : Tok)])) (tcs_append _ _) (n + 1) rfl ?_; intro A9 c9 w9 o9 b9; replace o9 := Lib.hid o9; replace b9 := Lib.hid b9; clear hor htn))
              have gA := (Gr.refl w').alloc (.cells #[.int .i64 ((bs.length : Nat) : Int), .int .i64 1, .string ⟨#[]⟩] 52)
              have bk9 : Blk w9 w.heap.size 38 _ := (blk_more hbk.out gA).below b9.out (by omega)
              have gr9 : Gr w w9 := Below.trans (Below.trans hgr.out (Below.mono gA (Below.size hgr.out))) (b9.out.mono (by omega))
              exact ⟨⟨at_ + tl, n + 1, ((bs.length : Nat) : Int) + 1, out ++ [(⟨((bs.length : Nat) : Int), 1, []⟩ : Tok)], A9, c9, by omega, by omega, by omega, by omega, rfl, by go_num, by go_num, Lib.hid ⟨by rw [List.length_append, hln.out]; rfl, hfp.out, o9.out, bk9, gr9⟩⟩, by simp [intOf]; omega⟩
            · have hst : stepP ⟨(sz : Int), bs, (tl : Int), x⟩ b at_ next = none := by
                unfold stepP
                rw [if_neg (fun h => hge h.2), if_neg (fun h => c3' h.2.2.2)]
              have q3 : (sign (b.drop at_) == x) = false := by simpa using c3'
              have q2 : ((b.length : Int) - (at_ : Int) == (tl : Int)) = true := by rw [c2']; simp
              go_wp2
              refine region_grow rfl (by kernel_rfl) ?_
              refine GW.p1 (.agg #[.int .i64 (sz : Int), .slice A1 bs.length c1, .int .i64 (tl : Int), .int .u32 (n32 x.1), .int .u64 (n64 x.2.1), .int .u64 (n64 x.2.2)]) rfl trivial (kn0 (t := 2) (c := .pointer (some ⟨w.heap.size, 0, none⟩)) (by kernel_rfl) rfl) (fun ρ w' hρ hg => by simp [execOp, hρ, go_sem, (hg.cell (p := ⟨w.heap.size, 0, none⟩) hbk.out.lt).trans (hbk.out.cell 0), (hg.cell (p := ⟨w.heap.size, 1, none⟩) hbk.out.lt).trans (hbk.out.cell 1), (hg.cell (p := ⟨w.heap.size, 2, none⟩) hbk.out.lt).trans (hbk.out.cell 2), (hg.cell (p := ⟨w.heap.size, 3, none⟩) hbk.out.lt).trans (hbk.out.cell 3), (hg.cell (p := ⟨w.heap.size, 4, none⟩) hbk.out.lt).trans (hbk.out.cell 4), (hg.cell (p := ⟨w.heap.size, 5, none⟩) hbk.out.lt).trans (hbk.out.cell 5)]) ?_
              refine GW.call1 (eqv (.bool true)) rfl trivial rfl Try.func16 (by kernel_rfl) (by kernel_rfl) (eqv_lasts _) (kn (t := 37) (j := 0) (by kernel_rfl)) (fun v w' hg hv => ?_) ?_
              · obtain rfl : v = _ := hv
                refine (hri.out w').mono ?_
                rintro e w9 ⟨rfl, hg9⟩
                exact ⟨_, rfl, rfl, hg9⟩
              refine GW.mv rfl trivial (.inl rfl) (kn (t := 38) (j := 1) (by kernel_rfl)) (eqv_lasts _) ?_
              refine GW.p1 (.pointer (some ⟨w.heap.size, 2, none⟩)) rfl ⟨39, by kernel_rfl, by kernel_rfl, fun _ _ h => h⟩ (kn0 (t := 2) (c := .pointer (some ⟨w.heap.size, 0, none⟩)) (by kernel_rfl) rfl) (fun ρ w' hρ hg => by simp [execOp, hρ, go_sem]) ?_
              refine GW.p1 (.int .i64 (tl : Int)) rfl ⟨39, by kernel_rfl, by kernel_rfl, fun _ _ h => h⟩ (kn (t := 40) (j := 3) (by kernel_rfl)) (fun ρ w' hρ hg => by simp [execOp, hρ, go_sem, (hg.cell (p := ⟨w.heap.size, 2, none⟩) hbk.out.lt).trans (hbk.out.cell 2)]) ?_
              refine GW.bin (.bool true) rfl ⟨39, by kernel_rfl, by kernel_rfl, fun _ _ h => h⟩ rfl (kn (t := 41) (j := 4) (by kernel_rfl)) knc (fun w' => by simp [go_sem] <;> omega) ?_
              refine GW.pick (b := true) rfl trivial rfl (kn (t := 39) (j := 2) (by kernel_rfl)) (kn (t := 42) (j := 5) (by kernel_rfl)) (eqv_lasts _) ?_
              refine GW.mv rfl trivial (.inl rfl) (kn (t := 43) (j := 6) (by kernel_rfl)) (eqv_lasts _) ?_
              refine GW.mv rfl ⟨44, by kernel_rfl, by kernel_rfl, fun _ _ h => h⟩ (.inl rfl) (kn0 (t := 1) (c := str b) (by kernel_rfl) rfl) (eqv_lasts _) ?_
              refine GW.lenS b rfl ⟨44, by kernel_rfl, by kernel_rfl, fun _ _ h => h⟩ rfl Try.underlying9 (kn (t := 45) (j := 8) (by kernel_rfl)) ?_
              refine GW.mv rfl ⟨44, by kernel_rfl, by kernel_rfl, fun _ _ h => h⟩ (.inl rfl) (kn0 (t := 7) (c := .int .i64 (at_ : Int)) (by kernel_rfl) rfl) (eqv_lasts _) ?_
              refine GW.bin (.int .i64 ((b.length : Int) - (at_ : Int))) rfl ⟨44, by kernel_rfl, by kernel_rfl, fun _ _ h => h⟩ rfl (kn (t := 46) (j := 9) (by kernel_rfl)) (kn (t := 47) (j := 10) (by kernel_rfl)) (fun w' => by simp [go_sem, kw1]) ?_
              refine GW.p1 (.pointer (some ⟨w.heap.size, 2, none⟩)) rfl ⟨44, by kernel_rfl, by kernel_rfl, fun _ _ h => h⟩ (kn0 (t := 2) (c := .pointer (some ⟨w.heap.size, 0, none⟩)) (by kernel_rfl) rfl) (fun ρ w' hρ hg => by simp [execOp, hρ, go_sem]) ?_
              refine GW.p1 (.int .i64 (tl : Int)) rfl ⟨44, by kernel_rfl, by kernel_rfl, fun _ _ h => h⟩ (kn (t := 49) (j := 12) (by kernel_rfl)) (fun ρ w' hρ hg => by simp [execOp, hρ, go_sem, (hg.cell (p := ⟨w.heap.size, 2, none⟩) hbk.out.lt).trans (hbk.out.cell 2)]) ?_
              refine GW.bin (.bool true) rfl ⟨44, by kernel_rfl, by kernel_rfl, fun _ _ h => h⟩ rfl (kn (t := 48) (j := 11) (by kernel_rfl)) (kn (t := 50) (j := 13) (by kernel_rfl)) (fun w' => by simp [go_sem] <;> omega) ?_
              refine GW.pick (b := true) rfl trivial rfl (kn (t := 44) (j := 7) (by kernel_rfl)) (kn (t := 51) (j := 14) (by kernel_rfl)) (eqv_lasts _) ?_
              refine GW.mv rfl trivial (.inl rfl) (kn (t := 52) (j := 15) (by kernel_rfl)) (eqv_lasts _) ?_
              refine GW.mv rfl ⟨53, by kernel_rfl, by kernel_rfl, fun _ _ h => h⟩ (.inl rfl) (kn0 (t := 1) (c := str b) (by kernel_rfl) rfl) (eqv_lasts _) ?_
              refine GW.mv rfl ⟨53, by kernel_rfl, by kernel_rfl, fun _ _ h => h⟩ (.inl rfl) (kn0 (t := 7) (c := .int .i64 (at_ : Int)) (by kernel_rfl) rfl) (eqv_lasts _) ?_
              refine GW.op (eqv (str (b.drop at_))) rfl (eqv_lasts _) ⟨53, by kernel_rfl, by kernel_rfl, fun _ _ h => h⟩ (fun a w' hg hkn => ?_) ?_
              · have h1 : a.eval (.tmp 54) = str b := (kn (t := 54) (j := 17) (by kernel_rfl)) a w' hg hkn
                have h2 : a.eval (.tmp 55) = .int .i64 (at_ : Int) := (kn (t := 55) (j := 18) (by kernel_rfl)) a w' hg hkn
                exact res_str1 (.tmp 54) (.tmp 55) Try.underlying9 rfl h1 h2 (by omega)
              refine GW.call1 (eqv (sV (sign (b.drop at_)))) rfl ⟨53, by kernel_rfl, by kernel_rfl, fun _ _ h => h⟩ rfl Try.func18 (by kernel_rfl) (by kernel_rfl) (eqv_lasts _) (kn (t := 56) (j := 19) (by kernel_rfl)) (fun v w' hg hv => ?_) ?_
              · obtain rfl : v = _ := hv
                refine (Sg.refSignOf_any (b.drop at_) w' (by rw [List.length_drop]; omega)).mono ?_
                rintro e w9 ⟨rfl, hg9⟩
                exact ⟨_, rfl, rfl, hg9⟩
              refine GW.p1 (.pointer (some ⟨w.heap.size, 3, none⟩)) rfl ⟨53, by kernel_rfl, by kernel_rfl, fun _ _ h => h⟩ (kn0 (t := 2) (c := .pointer (some ⟨w.heap.size, 0, none⟩)) (by kernel_rfl) rfl) (fun ρ w' hρ hg => by simp [execOp, hρ, go_sem]) ?_
              refine GW.p1 (.agg #[.int .u32 (n32 x.1), .int .u64 (n64 x.2.1), .int .u64 (n64 x.2.2)]) rfl ⟨53, by kernel_rfl, by kernel_rfl, fun _ _ h => h⟩ (kn (t := 58) (j := 21) (by kernel_rfl)) (fun ρ w' hρ hg => by simp [execOp, hρ, go_sem, (hg.cell (p := ⟨w.heap.size, 3, none⟩) hbk.out.lt).trans (hbk.out.cell 3), (hg.cell (p := ⟨w.heap.size, 4, none⟩) hbk.out.lt).trans (hbk.out.cell 4), (hg.cell (p := ⟨w.heap.size, 5, none⟩) hbk.out.lt).trans (hbk.out.cell 5)]) ?_
              refine GW.bin (.bool false) rfl ⟨53, by kernel_rfl, by kernel_rfl, fun _ _ h => h⟩ rfl (kn (t := 57) (j := 20) (by kernel_rfl)) (kn (t := 59) (j := 22) (by kernel_rfl)) (fun w' => (q3 ▸ (run_eql_sign _ (.inr rfl) (sign (b.drop at_)) x _ _ w').1)) ?_
              refine GW.pick (b := true) rfl trivial rfl (kn (t := 53) (j := 16) (by kernel_rfl)) (kn (t := 60) (j := 23) (by kernel_rfl)) (eqv_lasts _) ?_
              refine GW.done (by simp) (by kernel_rfl) (fun w' hg => ?_)
              rintro v0 - v1 - v2 - v3 - v4 - v5 - v6 - v7 - v8 - v9 - v10 - v11 - v12 - v13 - v14 - v15 - v16 - v17 - v18 - v19 - v20 - v21 - v22 - v23 - v24 h24
              obtain rfl : v24 = (.bool false) := h24
              simp only [GFin, Act.put, List.setIfInBounds_toArray, List.set_cons_succ, List.set_cons_zero]
              replace hbk := Lib.hid (blk_more hbk.out hg)
              replace hgr := Lib.hid (Below.trans hgr.out (Below.mono hg (Below.size hgr.out)))
              replace hor := Lib.hid (OR.below hor.out hg)
              have hws2 : w.heap.size < w'.heap.size := hbk.out.lt
              clear hg y0 hws1
              have hfp := Lib.hid (show (out ++ [(⟨0, 0, (b.drop at_).take 1⟩ : Tok)]) ++ findP (⟨(sz : Int), bs, (tl : Int), x⟩ : Sig) b (at_ + 1) ((-1)) = findP (⟨(sz : Int), bs, (tl : Int), x⟩ : Sig) b 0 (-1) by rw [← hout.out, findP_none (s := (⟨(sz : Int), bs, (tl : Int), x⟩ : Sig)) hlt hst, List.append_assoc]; rfl)
              have kw3 : IntKind.i64.wrap ((at_ : Int) + 1) = (at_ : Int) + 1 := IntWalk.i64_in _ (by omega)
              have kn1 : at_ + 1 - at_ = 1 := by omega
              have htn := Lib.hid (TR.new1 w' 52 (⟨0, 0, (b.drop at_).take 1⟩ : Tok))
              clear hst hout
              try clear hq
              have y1 := hbk.out.cell 1
              have y2 := hbk.out.cell 2
              go_wp2_with (first
                | ((with_reducible refine wpList_isApp (.tmp 79) (.tmp 86) 24 rfl ?_); refine wpList_append_rowsN (base := w.heap.size + 1) (v := .slice A0 n c0) rfl (.tmp 79) (.tmp 86) 24 rfl Try.underlying24 refRow rfl (by exact (World.ownsRow.alloc hor.out _)) (w'.heap.size + 1) (some ⟨w'.heap.size, 0, none⟩) 1 1 (tcs [(⟨0, 0, (b.drop at_).take 1⟩ : Tok)]) rfl (by exact htn.out) (tcs_one_cell _) (by unfold maxLen; omega) (by omega) (by rw [World.size_alloc]; omega) (tcs (out ++ [(⟨0, 0, (b.drop at_).take 1⟩ : Tok)])) (tcs_append _ _) (n + 1) rfl ?_; intro A9 c9 w9 o9 b9; replace o9 := Lib.hid o9; replace b9 := Lib.hid b9; clear hor htn))
              have gA := (Gr.refl w').alloc (.cells #[.int .i64 0, .int .i64 0, .string ⟨((b.drop at_).take 1).toArray⟩] 52)
              have bk9 : Blk w9 w.heap.size 38 _ := (blk_more hbk.out gA).below b9.out (by omega)
              have gr9 : Gr w w9 := Below.trans (Below.trans hgr.out (Below.mono gA (Below.size hgr.out))) (b9.out.mono (by omega))
              exact ⟨⟨at_ + 1, n + 1, (-1), out ++ [(⟨0, 0, (b.drop at_).take 1⟩ : Tok)], A9, c9, by omega, by omega, by omega, by omega, rfl, by go_num, by go_num, Lib.hid ⟨by rw [List.length_append, hln.out]; rfl, hfp.out, o9.out, bk9, gr9⟩⟩, by simp [intOf]; omega⟩
          · have hst : stepP ⟨(sz : Int), bs, (tl : Int), x⟩ b at_ next = none := by
              unfold stepP
              rw [if_neg (fun h => hge h.2), if_neg (fun h => c2' h.2.2.1)]
            have q2 : ((b.length : Int) - (at_ : Int) == (tl : Int)) = false := by simpa using c2'
            go_wp2
            refine region_grow rfl (by kernel_rfl) ?_
            refine GW.p1 (.agg #[.int .i64 (sz : Int), .slice A1 bs.length c1, .int .i64 (tl : Int), .int .u32 (n32 x.1), .int .u64 (n64 x.2.1), .int .u64 (n64 x.2.2)]) rfl trivial (kn0 (t := 2) (c := .pointer (some ⟨w.heap.size, 0, none⟩)) (by kernel_rfl) rfl) (fun ρ w' hρ hg => by simp [execOp, hρ, go_sem, (hg.cell (p := ⟨w.heap.size, 0, none⟩) hbk.out.lt).trans (hbk.out.cell 0), (hg.cell (p := ⟨w.heap.size, 1, none⟩) hbk.out.lt).trans (hbk.out.cell 1), (hg.cell (p := ⟨w.heap.size, 2, none⟩) hbk.out.lt).trans (hbk.out.cell 2), (hg.cell (p := ⟨w.heap.size, 3, none⟩) hbk.out.lt).trans (hbk.out.cell 3), (hg.cell (p := ⟨w.heap.size, 4, none⟩) hbk.out.lt).trans (hbk.out.cell 4), (hg.cell (p := ⟨w.heap.size, 5, none⟩) hbk.out.lt).trans (hbk.out.cell 5)]) ?_
            refine GW.call1 (eqv (.bool true)) rfl trivial rfl Try.func16 (by kernel_rfl) (by kernel_rfl) (eqv_lasts _) (kn (t := 37) (j := 0) (by kernel_rfl)) (fun v w' hg hv => ?_) ?_
            · obtain rfl : v = _ := hv
              refine (hri.out w').mono ?_
              rintro e w9 ⟨rfl, hg9⟩
              exact ⟨_, rfl, rfl, hg9⟩
            refine GW.mv rfl trivial (.inl rfl) (kn (t := 38) (j := 1) (by kernel_rfl)) (eqv_lasts _) ?_
            refine GW.p1 (.pointer (some ⟨w.heap.size, 2, none⟩)) rfl ⟨39, by kernel_rfl, by kernel_rfl, fun _ _ h => h⟩ (kn0 (t := 2) (c := .pointer (some ⟨w.heap.size, 0, none⟩)) (by kernel_rfl) rfl) (fun ρ w' hρ hg => by simp [execOp, hρ, go_sem]) ?_
            refine GW.p1 (.int .i64 (tl : Int)) rfl ⟨39, by kernel_rfl, by kernel_rfl, fun _ _ h => h⟩ (kn (t := 40) (j := 3) (by kernel_rfl)) (fun ρ w' hρ hg => by simp [execOp, hρ, go_sem, (hg.cell (p := ⟨w.heap.size, 2, none⟩) hbk.out.lt).trans (hbk.out.cell 2)]) ?_
            refine GW.bin (.bool true) rfl ⟨39, by kernel_rfl, by kernel_rfl, fun _ _ h => h⟩ rfl (kn (t := 41) (j := 4) (by kernel_rfl)) knc (fun w' => by simp [go_sem] <;> omega) ?_
            refine GW.pick (b := true) rfl trivial rfl (kn (t := 39) (j := 2) (by kernel_rfl)) (kn (t := 42) (j := 5) (by kernel_rfl)) (eqv_lasts _) ?_
            refine GW.mv rfl trivial (.inl rfl) (kn (t := 43) (j := 6) (by kernel_rfl)) (eqv_lasts _) ?_
            refine GW.mv rfl ⟨44, by kernel_rfl, by kernel_rfl, fun _ _ h => h⟩ (.inl rfl) (kn0 (t := 1) (c := str b) (by kernel_rfl) rfl) (eqv_lasts _) ?_
            refine GW.lenS b rfl ⟨44, by kernel_rfl, by kernel_rfl, fun _ _ h => h⟩ rfl Try.underlying9 (kn (t := 45) (j := 8) (by kernel_rfl)) ?_
            refine GW.mv rfl ⟨44, by kernel_rfl, by kernel_rfl, fun _ _ h => h⟩ (.inl rfl) (kn0 (t := 7) (c := .int .i64 (at_ : Int)) (by kernel_rfl) rfl) (eqv_lasts _) ?_
            refine GW.bin (.int .i64 ((b.length : Int) - (at_ : Int))) rfl ⟨44, by kernel_rfl, by kernel_rfl, fun _ _ h => h⟩ rfl (kn (t := 46) (j := 9) (by kernel_rfl)) (kn (t := 47) (j := 10) (by kernel_rfl)) (fun w' => by simp [go_sem, kw1]) ?_
            refine GW.p1 (.pointer (some ⟨w.heap.size, 2, none⟩)) rfl ⟨44, by kernel_rfl, by kernel_rfl, fun _ _ h => h⟩ (kn0 (t := 2) (c := .pointer (some ⟨w.heap.size, 0, none⟩)) (by kernel_rfl) rfl) (fun ρ w' hρ hg => by simp [execOp, hρ, go_sem]) ?_
            refine GW.p1 (.int .i64 (tl : Int)) rfl ⟨44, by kernel_rfl, by kernel_rfl, fun _ _ h => h⟩ (kn (t := 49) (j := 12) (by kernel_rfl)) (fun ρ w' hρ hg => by simp [execOp, hρ, go_sem, (hg.cell (p := ⟨w.heap.size, 2, none⟩) hbk.out.lt).trans (hbk.out.cell 2)]) ?_
            refine GW.bin (.bool false) rfl ⟨44, by kernel_rfl, by kernel_rfl, fun _ _ h => h⟩ rfl (kn (t := 48) (j := 11) (by kernel_rfl)) (kn (t := 50) (j := 13) (by kernel_rfl)) (fun w' => by simp [go_sem] <;> omega) ?_
            refine GW.pick (b := true) rfl trivial rfl (kn (t := 44) (j := 7) (by kernel_rfl)) (kn (t := 51) (j := 14) (by kernel_rfl)) (eqv_lasts _) ?_
            refine GW.mv rfl trivial (.inl rfl) (kn (t := 52) (j := 15) (by kernel_rfl)) (eqv_lasts _) ?_
            refine GW.skip rfl rfl (d := 53) (by kernel_rfl) (by kernel_rfl) (fun _ _ h => .inl h) ?_
            refine GW.skip rfl rfl (d := 53) (by kernel_rfl) (by kernel_rfl) (fun _ _ h => .inl h) ?_
            refine GW.skip rfl rfl (d := 53) (by kernel_rfl) (by kernel_rfl) (fun _ _ h => .inl h) ?_
            refine GW.skip rfl rfl (d := 53) (by kernel_rfl) (by kernel_rfl) (fun _ _ h => .inl h) ?_
            refine GW.skip rfl rfl (d := 53) (by kernel_rfl) (by kernel_rfl) (fun _ _ h => .inl h) ?_
            refine GW.skip rfl rfl (d := 53) (by kernel_rfl) (by kernel_rfl) (fun _ _ h => .inl h) ?_
            refine GW.skip rfl rfl (d := 53) (by kernel_rfl) (by kernel_rfl) (fun _ _ h => .inl h) ?_
            refine GW.pick (b := false) rfl trivial rfl (kn (t := 53) (j := 16) (by kernel_rfl)) (knc) (eqv_lasts _) ?_
            refine GW.done (by simp) (by kernel_rfl) (fun w' hg => ?_)
            rintro v0 - v1 - v2 - v3 - v4 - v5 - v6 - v7 - v8 - v9 - v10 - v11 - v12 - v13 - v14 - v15 - v16 - v17 - v18 - v19 - v20 - v21 - v22 - v23 - v24 h24
            obtain rfl : v24 = (Value.bool false) := h24
            simp only [GFin, Act.put, List.setIfInBounds_toArray, List.set_cons_succ, List.set_cons_zero]
            replace hbk := Lib.hid (blk_more hbk.out hg)
            replace hgr := Lib.hid (Below.trans hgr.out (Below.mono hg (Below.size hgr.out)))
            replace hor := Lib.hid (OR.below hor.out hg)
            have hws2 : w.heap.size < w'.heap.size := hbk.out.lt
            clear hg y0 hws1
            have hfp := Lib.hid (show (out ++ [(⟨0, 0, (b.drop at_).take 1⟩ : Tok)]) ++ findP (⟨(sz : Int), bs, (tl : Int), x⟩ : Sig) b (at_ + 1) ((-1)) = findP (⟨(sz : Int), bs, (tl : Int), x⟩ : Sig) b 0 (-1) by rw [← hout.out, findP_none (s := (⟨(sz : Int), bs, (tl : Int), x⟩ : Sig)) hlt hst, List.append_assoc]; rfl)
            have kw3 : IntKind.i64.wrap ((at_ : Int) + 1) = (at_ : Int) + 1 := IntWalk.i64_in _ (by omega)
            have kn1 : at_ + 1 - at_ = 1 := by omega
            have htn := Lib.hid (TR.new1 w' 52 (⟨0, 0, (b.drop at_).take 1⟩ : Tok))
            clear hst hout
            try clear hq
            have y1 := hbk.out.cell 1
            have y2 := hbk.out.cell 2
            go_wp2_with (first
              | ((with_reducible refine wpList_isApp (.tmp 79) (.tmp 86) 24 rfl ?_); refine wpList_append_rowsN (base := w.heap.size + 1) (v := .slice A0 n c0) rfl (.tmp 79) (.tmp 86) 24 rfl Try.underlying24 refRow rfl (by exact (World.ownsRow.alloc hor.out _)) (w'.heap.size + 1) (some ⟨w'.heap.size, 0, none⟩) 1 1 (tcs [(⟨0, 0, (b.drop at_).take 1⟩ : Tok)]) rfl (by exact htn.out) (tcs_one_cell _) (by unfold maxLen; omega) (by omega) (by rw [World.size_alloc]; omega) (tcs (out ++ [(⟨0, 0, (b.drop at_).take 1⟩ : Tok)])) (tcs_append _ _) (n + 1) rfl ?_; intro A9 c9 w9 o9 b9; replace o9 := Lib.hid o9; replace b9 := Lib.hid b9; clear hor htn))
            have gA := (Gr.refl w').alloc (.cells #[.int .i64 0, .int .i64 0, .string ⟨((b.drop at_).take 1).toArray⟩] 52)
            have bk9 : Blk w9 w.heap.size 38 _ := (blk_more hbk.out gA).below b9.out (by omega)
            have gr9 : Gr w w9 := Below.trans (Below.trans hgr.out (Below.mono gA (Below.size hgr.out))) (b9.out.mono (by omega))
            exact ⟨⟨at_ + 1, n + 1, (-1), out ++ [(⟨0, 0, (b.drop at_).take 1⟩ : Tok)], A9, c9, by omega, by omega, by omega, by omega, rfl, by go_num, by go_num, Lib.hid ⟨by rw [List.length_append, hln.out]; rfl, hfp.out, o9.out, bk9, gr9⟩⟩, by simp [intOf]; omega⟩
        · have hst : stepP ⟨(sz : Int), bs, (tl : Int), x⟩ b at_ next = none := by
            unfold stepP
            rw [if_neg (fun h => hge h.2), if_neg (fun h => c1' (by have := h.2.1; simp only at this; omega))]
          go_wp2
          refine region_grow rfl (by kernel_rfl) ?_
          refine GW.p1 (.agg #[.int .i64 (sz : Int), .slice A1 bs.length c1, .int .i64 (tl : Int), .int .u32 (n32 x.1), .int .u64 (n64 x.2.1), .int .u64 (n64 x.2.2)]) rfl trivial (kn0 (t := 2) (c := .pointer (some ⟨w.heap.size, 0, none⟩)) (by kernel_rfl) rfl) (fun ρ w' hρ hg => by simp [execOp, hρ, go_sem, (hg.cell (p := ⟨w.heap.size, 0, none⟩) hbk.out.lt).trans (hbk.out.cell 0), (hg.cell (p := ⟨w.heap.size, 1, none⟩) hbk.out.lt).trans (hbk.out.cell 1), (hg.cell (p := ⟨w.heap.size, 2, none⟩) hbk.out.lt).trans (hbk.out.cell 2), (hg.cell (p := ⟨w.heap.size, 3, none⟩) hbk.out.lt).trans (hbk.out.cell 3), (hg.cell (p := ⟨w.heap.size, 4, none⟩) hbk.out.lt).trans (hbk.out.cell 4), (hg.cell (p := ⟨w.heap.size, 5, none⟩) hbk.out.lt).trans (hbk.out.cell 5)]) ?_
          refine GW.call1 (eqv (.bool true)) rfl trivial rfl Try.func16 (by kernel_rfl) (by kernel_rfl) (eqv_lasts _) (kn (t := 37) (j := 0) (by kernel_rfl)) (fun v w' hg hv => ?_) ?_
          · obtain rfl : v = _ := hv
            refine (hri.out w').mono ?_
            rintro e w9 ⟨rfl, hg9⟩
            exact ⟨_, rfl, rfl, hg9⟩
          refine GW.mv rfl trivial (.inl rfl) (kn (t := 38) (j := 1) (by kernel_rfl)) (eqv_lasts _) ?_
          refine GW.p1 (.pointer (some ⟨w.heap.size, 2, none⟩)) rfl ⟨39, by kernel_rfl, by kernel_rfl, fun _ _ h => h⟩ (kn0 (t := 2) (c := .pointer (some ⟨w.heap.size, 0, none⟩)) (by kernel_rfl) rfl) (fun ρ w' hρ hg => by simp [execOp, hρ, go_sem]) ?_
          refine GW.p1 (.int .i64 (tl : Int)) rfl ⟨39, by kernel_rfl, by kernel_rfl, fun _ _ h => h⟩ (kn (t := 40) (j := 3) (by kernel_rfl)) (fun ρ w' hρ hg => by simp [execOp, hρ, go_sem, (hg.cell (p := ⟨w.heap.size, 2, none⟩) hbk.out.lt).trans (hbk.out.cell 2)]) ?_
          refine GW.bin (.bool false) rfl ⟨39, by kernel_rfl, by kernel_rfl, fun _ _ h => h⟩ rfl (kn (t := 41) (j := 4) (by kernel_rfl)) knc (fun w' => by simp [go_sem] <;> omega) ?_
          refine GW.pick (b := true) rfl trivial rfl (kn (t := 39) (j := 2) (by kernel_rfl)) (kn (t := 42) (j := 5) (by kernel_rfl)) (eqv_lasts _) ?_
          refine GW.mv rfl trivial (.inl rfl) (kn (t := 43) (j := 6) (by kernel_rfl)) (eqv_lasts _) ?_
          refine GW.skip rfl rfl (d := 44) (by kernel_rfl) (by kernel_rfl) (fun _ _ h => .inl h) ?_
          refine GW.skip rfl rfl (d := 44) (by kernel_rfl) (by kernel_rfl) (fun _ _ h => .inl h) ?_
          refine GW.skip rfl rfl (d := 44) (by kernel_rfl) (by kernel_rfl) (fun _ _ h => .inl h) ?_
          refine GW.skip rfl rfl (d := 44) (by kernel_rfl) (by kernel_rfl) (fun _ _ h => .inl h) ?_
          refine GW.skip rfl rfl (d := 44) (by kernel_rfl) (by kernel_rfl) (fun _ _ h => .inl h) ?_
          refine GW.skip rfl rfl (d := 44) (by kernel_rfl) (by kernel_rfl) (fun _ _ h => .inl h) ?_
          refine GW.skip rfl rfl (d := 44) (by kernel_rfl) (by kernel_rfl) (fun _ _ h => .inl h) ?_
          refine GW.pick (b := false) rfl trivial rfl (kn (t := 44) (j := 7) (by kernel_rfl)) (knc) (eqv_lasts _) ?_
          refine GW.mv rfl trivial (.inl rfl) (kn (t := 52) (j := 15) (by kernel_rfl)) (eqv_lasts _) ?_
          refine GW.skip rfl rfl (d := 53) (by kernel_rfl) (by kernel_rfl) (fun _ _ h => .inl h) ?_
          refine GW.skip rfl rfl (d := 53) (by kernel_rfl) (by kernel_rfl) (fun _ _ h => .inl h) ?_
          refine GW.skip rfl rfl (d := 53) (by kernel_rfl) (by kernel_rfl) (fun _ _ h => .inl h) ?_
          refine GW.skip rfl rfl (d := 53) (by kernel_rfl) (by kernel_rfl) (fun _ _ h => .inl h) ?_
          refine GW.skip rfl rfl (d := 53) (by kernel_rfl) (by kernel_rfl) (fun _ _ h => .inl h) ?_
          refine GW.skip rfl rfl (d := 53) (by kernel_rfl) (by kernel_rfl) (fun _ _ h => .inl h) ?_
          refine GW.skip rfl rfl (d := 53) (by kernel_rfl) (by kernel_rfl) (fun _ _ h => .inl h) ?_
          refine GW.pick (b := false) rfl trivial rfl (kn (t := 53) (j := 16) (by kernel_rfl)) (knc) (eqv_lasts _) ?_
          refine GW.done (by simp) (by kernel_rfl) (fun w' hg => ?_)
          rintro v0 - v1 - v2 - v3 - v4 - v5 - v6 - v7 - v8 - v9 - v10 - v11 - v12 - v13 - v14 - v15 - v16 - v17 - v18 - v19 - v20 - v21 - v22 - v23 - v24 h24
          obtain rfl : v24 = (Value.bool false) := h24
          simp only [GFin, Act.put, List.setIfInBounds_toArray, List.set_cons_succ, List.set_cons_zero]
          replace hbk := Lib.hid (blk_more hbk.out hg)
          replace hgr := Lib.hid (Below.trans hgr.out (Below.mono hg (Below.size hgr.out)))
          replace hor := Lib.hid (OR.below hor.out hg)
          have hws2 : w.heap.size < w'.heap.size := hbk.out.lt
          clear hg y0 hws1
          have hfp := Lib.hid (show (out ++ [(⟨0, 0, (b.drop at_).take 1⟩ : Tok)]) ++ findP (⟨(sz : Int), bs, (tl : Int), x⟩ : Sig) b (at_ + 1) ((-1)) = findP (⟨(sz : Int), bs, (tl : Int), x⟩ : Sig) b 0 (-1) by rw [← hout.out, findP_none (s := (⟨(sz : Int), bs, (tl : Int), x⟩ : Sig)) hlt hst, List.append_assoc]; rfl)
          have kw3 : IntKind.i64.wrap ((at_ : Int) + 1) = (at_ : Int) + 1 := IntWalk.i64_in _ (by omega)
          have kn1 : at_ + 1 - at_ = 1 := by omega
          have htn := Lib.hid (TR.new1 w' 52 (⟨0, 0, (b.drop at_).take 1⟩ : Tok))
          clear hst hout
          try clear hq
          have y1 := hbk.out.cell 1
          have y2 := hbk.out.cell 2
          go_wp2_with (first
            | ((with_reducible refine wpList_isApp (.tmp 79) (.tmp 86) 24 rfl ?_); refine wpList_append_rowsN (base := w.heap.size + 1) (v := .slice A0 n c0) rfl (.tmp 79) (.tmp 86) 24 rfl Try.underlying24 refRow rfl (by exact (World.ownsRow.alloc hor.out _)) (w'.heap.size + 1) (some ⟨w'.heap.size, 0, none⟩) 1 1 (tcs [(⟨0, 0, (b.drop at_).take 1⟩ : Tok)]) rfl (by exact htn.out) (tcs_one_cell _) (by unfold maxLen; omega) (by omega) (by rw [World.size_alloc]; omega) (tcs (out ++ [(⟨0, 0, (b.drop at_).take 1⟩ : Tok)])) (tcs_append _ _) (n + 1) rfl ?_; intro A9 c9 w9 o9 b9; replace o9 := Lib.hid o9; replace b9 := Lib.hid b9; clear hor htn))
          have gA := (Gr.refl w').alloc (.cells #[.int .i64 0, .int .i64 0, .string ⟨((b.drop at_).take 1).toArray⟩] 52)
          have bk9 : Blk w9 w.heap.size 38 _ := (blk_more hbk.out gA).below b9.out (by omega)
          have gr9 : Gr w w9 := Below.trans (Below.trans hgr.out (Below.mono gA (Below.size hgr.out))) (b9.out.mono (by omega))
          exact ⟨⟨at_ + 1, n + 1, (-1), out ++ [(⟨0, 0, (b.drop at_).take 1⟩ : Tok)], A9, c9, by omega, by omega, by omega, by omega, rfl, by go_num, by go_num, Lib.hid ⟨by rw [List.length_append, hln.out]; rfl, hfp.out, o9.out, bk9, gr9⟩⟩, by simp [intOf]; omega⟩
    · rw [findP_end (by omega), List.append_nil] at hout
      have hfit : Fits out := ⟨by omega, fun t ht => (right_fit (findF_right hrt.out _ _ _ t (show t ∈ findF _ b (b.length + 1) 0 (-1) from by have := hout ▸ ht; exact this))).1⟩
      have htr : TR wr wr.heap.size A0 out := by
        have := OR.reads hor
        unfold TR
        rw [hln]
        exact this
      have hjo := refJoin_out A0 c0 out wr htr hfit (by omega)
      have hR : join out = refOf ⟨(sz : Int), bs, (tl : Int), x⟩ b := by rw [hout]; rfl
      rw [hln, hR] at hjo
      replace hjo := Lib.hid hjo
      clear hbk hor hout hln htr hR
      replace hgr := Lib.hid hgr
      have hlti : ¬ (at_ : Int) < (b.length : Int) := by omega
      go_wp2_with fail
      go_at_call 19
      refine hjo.out.mono ?_
      rintro e W2 ⟨A2, c2, rfl, o2, g2⟩
      have hgz := Below.size hgr.out
      have gg : Gr w W2 := Below.trans hgr.out (Below.mono g2 hgz)
      clear hjo g2
      go_wp2
      go_ret
      exact ⟨A2, c2, rfl, OR.base_le o2 hgz, gg⟩
end Se
end Go.Proofs.Ytalkmkplmbmnkaa
namespace Go.Proofs.Ytalkmkplmbmnkaa
open Go Go.RowKit Go.Shelf W Sg Tk
namespace Se
abbrev old8 : List UInt8 := [97, 98, 99, 100, 101, 102, 103, 104]
abbrev new9 : List UInt8 := [120, 101, 102, 103, 104, 97, 98, 99, 100]
def ex3 : List Tok := [⟨0, 0, [120]⟩, ⟨1, 1, []⟩, ⟨0, 1, []⟩]
set_option maxRecDepth 100000 in
theorem ex_hunt : huntP (sigOf old8 4) new9 = ex3 := by kernel_rfl
set_option maxRecDepth 100000 in
set_option maxHeartbeats 2000000 in
theorem awake_any (w : World) : Calls Try.prog 5 #[] w fun e w' => e = .returned (.bool true) ∧ Gr w w' := by
  have kc := fun (w : World) (C : Array Value) (n c : Nat) => Lib.run_convert_bytes_const (P := Try.prog) w 22 5 C n c Try.underlying22 Try.underlying5
  have kc2 := kc (w.alloc (.cells #[.int .u8 97, .int .u8 98, .int .u8 99, .int .u8 100, .int .u8 101, .int .u8 102, .int .u8 103, .int .u8 104] 5 (8, 9)))
  simp only [World.size_alloc] at kc2
  have gw : Gr (w.alloc (.cells (bvs old8).toArray 5 (8, 9))) ((w.alloc (.cells (bvs old8).toArray 5 (8, 9))).alloc (.cells (bvs new9).toArray 5 (9, 10))) := (Gr.refl _).alloc _
  have r0 := RB.of_new w 5 old8 (8, 9)
  have r1 := RB.of_new (w.alloc (.cells (bvs old8).toArray 5 (8, 9))) 5 new9 (9, 10)
  have r0' := (r0.below (Below.mono gw (by simp))).more (Nat.le_succ _)
  have g1 := ((Gr.refl w).alloc (.cells (bvs old8).toArray 5 (8, 9))).alloc (.cells (bvs new9).toArray 5 (9, 10))
  have hsz : ((w.alloc (.cells (bvs old8).toArray 5 (8, 9))).alloc (.cells (bvs new9).toArray 5 (9, 10))).heap.size = w.heap.size + 1 + 1 := by simp
  have hde := Lib.hid (show ∀ W, Gr ((w.alloc (.cells (bvs old8).toArray 5 (8, 9))).alloc (.cells (bvs new9).toArray 5 (9, 10))) W → True from fun _ _ => trivial)
  rw [World.size_alloc] at r1
  have hdl := delta_any (some ⟨w.heap.size, 0, none⟩) (some ⟨w.heap.size + 1, 0, none⟩) 8 9 old8 new9 4 _ (by simp) (by simp) (by unfold maxLen; omega) (by rw [hsz]; exact r0') (by rw [hsz]; exact r1) (by simp) (by unfold maxLen; omega) (by simp)
  rw [ex_hunt] at hdl
  replace hdl := Lib.hid hdl
  replace g1 := Lib.hid g1
  clear r0 r1 r0' gw hsz hde kc
  have kc := fun (w : World) (C : Array Value) (n c : Nat) => Lib.run_convert_bytes_const (P := Try.prog) w 22 5 C n c Try.underlying22 Try.underlying5
  go_enter Try.func5, Try.ntmps5
  go_wp2_with fail
  go_at_call 7
  refine hdl.out.mono ?_
  rintro e W1 ⟨A1, c1, rfl, o1, g2⟩
  have G1 := Lib.hid (Gr.trans g1.out g2)
  have t1 := Lib.hid (OT.tr o1)
  have T5 := Lib.hid (TR.newN W1 48 ex3 #[.int .i64 0, .int .i64 0, .string ⟨#[120]⟩, .int .i64 1, .int .i64 1, .string ⟨#[]⟩, .int .i64 0, .int .i64 1, .string ⟨#[]⟩] rfl)
  clear hdl g1 g2 o1
  go_wp2_with fail
  go_at_call 15
  refine (same_any A1 c1 ex3 _ 3 ex3 _ ((t1.out.below ((Gr.refl W1).alloc _)).more (by rw [World.size_alloc]; omega)) (by rw [World.size_alloc]; exact T5.out) (by decide)).mono ?_
  rintro e W2 ⟨rfl, g3⟩
  have G2 := Lib.hid (Gr.trans (Gr.alloc G1.out _) g3)
  have hd : Hid (decide (ex3 = ex3) = true) := Lib.hid (by simp)
  rw [hd.out]
  clear G1 t1 T5 g3
  go_wp2
  go_ret
  exact ⟨rfl, G2.out⟩
def isTk (l : List Tok) : Ass := fun v w => ∃ A c, v = .slice A l.length c ∧ TR w w.heap.size A l
theorem isTk_lasts (l : List Tok) : Lasts (isTk l) := fun v w w' hg h => by
  obtain ⟨A, c, e, h1⟩ := h
  exact ⟨A, c, e, (h1.below hg).more (Below.size hg)⟩
def isSi (s : Sig) : Ass := fun v w => ∃ A c, v = sigV s A c ∧ SR w w.heap.size A s.bs
theorem isSi_lasts (s : Sig) : Lasts (isSi s) := fun v w w' hg h => by
  obtain ⟨A, c, e, h1⟩ := h
  exact ⟨A, c, e, (h1.below hg).more (Below.size hg)⟩
set_option maxRecDepth 100000 in
set_option maxHeartbeats 4000000 in
theorem deltas_walk (A Ab : Option Addr) (c cb : Nat) (l b : List UInt8) (size : Int) (w : World) (hc : l.length ≤ c) (hcm : c ≤ maxLen) (hr : RB w w.heap.size A l) (hcb : b.length ≤ cb) (hcmb : cb ≤ maxLen) (hrb : RB w w.heap.size Ab b) :
    Calls Try.prog 3 #[.slice A l.length c, .slice Ab b.length cb, .int .i64 size] w (Ret (eqv (.bool true)) w) := by
  have haw := Lib.hid (fun w => awake_any w)
  by_cases h1 : l.length ≤ 300
  · by_cases h2 : b.length ≤ 300
    · have hde := Lib.hid (delta_any A Ab c cb l b size w (by omega) hc hcm hr hrb hcb hcmb (by omega))
      have hrg := right_sigOf l size (by omega)
      have hfew := sig_few l size (by omega)
      have hro := Lib.hid (fun w => Sg.refOf_any l size w (by omega))
      have hlen := huntP_len (sigOf l size) b
      have heq := huntP_eq (sigOf l size) b (by omega)
      obtain ⟨s, hs⟩ : ∃ s, sigOf l size = s := ⟨_, rfl⟩
      rw [hs] at hde hrg hfew hro hlen heq
      obtain ⟨L, hL⟩ : ∃ L, huntP s b = L := ⟨_, rfl⟩
      rw [hL] at hde hlen heq
      have hrf := Lib.hid (fun A1 c1 w (h : SR w w.heap.size A1 s.bs) => refOf_r s A1 c1 b w h hrg (by omega))
      rw [← heq] at hrf
      have i1 : (l.length : Int) ≤ 300 := by omega
      have i2 : (b.length : Int) ≤ 300 := by omega
      replace hr := Lib.hid hr
      replace hrb := Lib.hid hrb
      clear hL heq hs hrg
      go_enter Try.func3, Try.ntmps3
      go_wp2_with fail
      go_at_call 7
      refine hde.out.mono ?_
      rintro e W1 ⟨A1, c1, rfl, o1, g1⟩
      have t1 := OT.tr o1
      have hfm := Lib.hid (Tk.from_any A1 c1 L W1 t1 (by omega))
      replace hr := Lib.hid ((hr.out.below g1).more (Below.size g1))
      replace hrb := Lib.hid ((hrb.out.below g1).more (Below.size g1))
      replace g1 := Lib.hid g1
      clear hde o1 t1
      go_wp2_with fail
      go_at_call 6
      refine hfm.out.mono ?_
      rintro e W2 ⟨A7, c7, rfl, o2, g2⟩
      have t7 := Lib.hid (OT.tr o2)
      replace hr := Lib.hid ((hr.out.below g2).more (Below.size g2))
      replace hrb := Lib.hid ((hrb.out.below g2).more (Below.size g2))
      have gg := Lib.hid (Gr.trans g1.out g2)
      clear hfm o2 g1 g2
      go_wp2
      refine region_grow (by kernel_rfl) (by kernel_rfl) ?_
      refine GW.call0 (eqv (.bool true)) rfl trivial rfl Try.func5 (by kernel_rfl) (by kernel_rfl) (eqv_lasts _)  (fun w' hg => ?_) ?_
      · refine (haw.out w').mono ?_
        rintro e w9 ⟨rfl, hg9⟩
        exact ⟨_, rfl, rfl, hg9⟩
      refine GW.mv rfl trivial (.inl rfl) (kn (t := 22) (j := 0) (by kernel_rfl)) (eqv_lasts _) ?_
      refine GW.mv rfl ⟨23, by kernel_rfl, by kernel_rfl, fun _ _ h => h⟩ (.inl rfl) (kn0' (t := 7) (c := .slice A7 L.length c7) (by kernel_rfl) rfl (isTk_lasts _) (⟨A7, c7, rfl, t7.out⟩)) (isTk_lasts _) ?_
      refine GW.mv rfl ⟨23, by kernel_rfl, by kernel_rfl, fun _ _ h => h⟩ (.inl rfl) (kn0' (t := 0) (c := .slice A l.length c) (by kernel_rfl) rfl (isB_lasts _) (⟨A, c, rfl, hc, hcm, hr.out⟩)) (isB_lasts _) ?_
      refine GW.bs (l) rfl ⟨23, by kernel_rfl, by kernel_rfl, fun _ _ h => h⟩ rfl Try.underlying22 Bl.byteType.1 Try.underlying9 (kn (t := 25) (j := 3) (by kernel_rfl)) ?_
      refine GW.mv rfl ⟨23, by kernel_rfl, by kernel_rfl, fun _ _ h => h⟩ (.inl rfl) (kn0 (t := 2) (c := .int .i64 size) (by kernel_rfl) rfl) (eqv_lasts _) ?_
      refine GW.call2 (isSi s) rfl ⟨23, by kernel_rfl, by kernel_rfl, fun _ _ h => h⟩ rfl Try.func10 (by kernel_rfl) (by kernel_rfl) (isSi_lasts _) (kn (t := 26) (j := 4) (by kernel_rfl)) (kn (t := 27) (j := 5) (by kernel_rfl)) (fun v u w' hg hv hu => ?_) ?_
      · obtain rfl : v = _ := hv
        obtain rfl : u = _ := hu
        refine (hro.out w').mono ?_
        rintro e w9 ⟨A9, c9, rfl, o9, hg9⟩
        exact ⟨_, rfl, ⟨A9, c9, rfl, OS.sr o9⟩, hg9⟩
      refine GW.mv rfl ⟨23, by kernel_rfl, by kernel_rfl, fun _ _ h => h⟩ (.inl rfl) (kn0' (t := 1) (c := .slice Ab b.length cb) (by kernel_rfl) rfl (isB_lasts _) (⟨Ab, cb, rfl, hcb, hcmb, hrb.out⟩)) (isB_lasts _) ?_
      refine GW.bs (b) rfl ⟨23, by kernel_rfl, by kernel_rfl, fun _ _ h => h⟩ rfl Try.underlying22 Bl.byteType.1 Try.underlying9 (kn (t := 29) (j := 7) (by kernel_rfl)) ?_
      refine GW.call2 (isTk L) rfl ⟨23, by kernel_rfl, by kernel_rfl, fun _ _ h => h⟩ rfl Try.func9 (by kernel_rfl) (by kernel_rfl) (isTk_lasts _) (kn (t := 28) (j := 6) (by kernel_rfl)) (kn (t := 30) (j := 8) (by kernel_rfl)) (fun v u w' hg hv hu => ?_) ?_
      · obtain ⟨A8, c8, rfl, q8⟩ := hv
        obtain rfl : u = _ := hu
        refine (hrf.out A8 c8 w' q8).mono ?_
        rintro e w9 ⟨A9, c9, rfl, o9, hg9⟩
        exact ⟨_, rfl, ⟨A9, c9, rfl, OT.tr o9⟩, hg9⟩
      refine GW.call2 (eqv (.bool true)) rfl ⟨23, by kernel_rfl, by kernel_rfl, fun _ _ h => h⟩ rfl Try.func8 (by kernel_rfl) (by kernel_rfl) (eqv_lasts _) (kn (t := 24) (j := 2) (by kernel_rfl)) (kn (t := 31) (j := 9) (by kernel_rfl)) (fun v u w' hg hv hu => ?_) ?_
      · obtain ⟨A8, c8, rfl, q8⟩ := hv
        obtain ⟨A9, c9, rfl, q9⟩ := hu
        refine (refSame_any A8 c8 L A9 c9 L w' q8 q9 (by omega)).mono ?_
        rw [same_self]
        rintro e w9 ⟨rfl, hg9⟩
        exact ⟨_, rfl, rfl, hg9⟩
      refine GW.pick (b := true) rfl trivial rfl (kn (t := 23) (j := 1) (by kernel_rfl)) (kn (t := 32) (j := 10) (by kernel_rfl)) (eqv_lasts _) ?_
      refine GW.mv rfl trivial (.inr rfl) (kn (t := 33) (j := 11) (by kernel_rfl)) (eqv_lasts _) ?_
      refine GW.done (by simp) (by kernel_rfl) (fun w' hg => ?_)
      rintro v0 - v1 - v2 - v3 - v4 - v5 - v6 - v7 - v8 - v9 - v10 - v11 - v12 h12
      obtain rfl : v12 = (.bool true) := h12
      simp only [GFin, Act.put, List.setIfInBounds_toArray, List.set_cons_succ, List.set_cons_zero]
      go_wp2
      go_ret
      exact ⟨_, rfl, rfl, Gr.trans gg.out hg⟩
    · have i1 : (l.length : Int) ≤ 300 := by omega
      have i2 : ¬ (b.length : Int) ≤ 300 := by omega
      clear hr hrb
      go_enter Try.func3, Try.ntmps3
      go_wp2_with fail
      go_at_call 5
      refine (haw.out _).mono ?_
      rintro e W1 ⟨rfl, g1⟩
      go_wp2
      go_ret
      exact ⟨_, rfl, rfl, g1⟩
  · have i1 : ¬ (l.length : Int) ≤ 300 := by omega
    clear hr hrb
    go_enter Try.func3, Try.ntmps3
    go_wp2_with fail
    go_at_call 5
    refine (haw.out _).mono ?_
    rintro e W1 ⟨rfl, g1⟩
    go_wp2
    go_ret
    exact ⟨_, rfl, rfl, g1⟩
end Se
end Go.Proofs.Ytalkmkplmbmnkaa
namespace Go.Proofs.Ytalkmkplmbmnkaa
open Sg Tk Bl
namespace Se
theorem which_mem {bs : List Sign} {x : Sign} (h : x ∈ bs) (next : Int) : ∃ k, whichP bs x next = some k := by
  unfold whichP
  split
  · exact ⟨_, rfl⟩
  · cases e : bs.findIdx? (· == x) with
    | some k => exact ⟨k, rfl⟩
    | none =>
      have := List.findIdx?_eq_none_iff.1 e x h
      simp at this
theorem self_bytes (l : List UInt8) (size : Int) (hl : l.length ≤ 16384) : ∀ (d j : Nat) (next : Int), j + d = l.length / hold size → Tk.bytes (findP (sigOf l size) l (j * hold size) next) = 0 := by
  have hr := right_sigOf l size hl
  have hh := (hold_pos size).1
  generalize hH : hold size = h at *
  have hm := Nat.div_add_mod l.length h
  have hmlt := Nat.mod_lt l.length (show 0 < h by omega)
  have hsz : (sigOf l size).size = (h : Int) := by unfold sigOf; simp [hH]
  have htl : (sigOf l size).tail = ((l.length % h : Nat) : Int) := by unfold sigOf; simp [hH]
  have hbl : (sigOf l size).bs = full l h := by unfold sigOf; simp [hH]
  have hls : (sigOf l size).last = lastOf l h := by unfold sigOf; simp [hH]
  have hbs := (right_spec hr).2.2.1
  intro d
  induction d with
  | zero =>
    intro j next hj
    have hjh : j * h + l.length % h = l.length := by rw [show j = l.length / h by omega, Nat.mul_comm]; exact hm
    by_cases h0 : l.length % h = 0
    · rw [findP_end (by omega)]; rfl
    · have hst : stepP (sigOf l size) l (j * h) next = some ((sigOf l size).bs.length, (sigOf l size).tail.toNat) := by
        rw [step_late hr (by rw [hsz, Int.toNat_natCast]; omega), if_pos]
        refine ⟨by rw [htl]; omega, by rw [htl]; omega, ?_⟩
        rw [hls]
        unfold lastOf
        rw [if_pos (by omega)]
        congr 1
        unfold at_
        rw [show l.length / h = j by omega, List.take_of_length_le (by rw [List.length_drop]; omega)]
      rw [findP_some (by omega) hst, findP_end (by rw [htl, Int.toNat_natCast]; omega)]
      exact bytes_copy _ hbs
  | succ d ih =>
    intro j next hj
    have hjn : j < l.length / h := by omega
    have hjh : (j + 1) * h ≤ l.length := Nat.le_trans (Nat.mul_le_mul_right h (show j + 1 ≤ l.length / h by omega)) (Nat.div_mul_le_self _ _)
    rw [Nat.succ_mul] at hjh
    have hmem : sign ((l.drop (j * h)).take h) ∈ (sigOf l size).bs := by
      rw [hbl]
      unfold full
      exact List.mem_map.2 ⟨j, List.mem_range.2 hjn, rfl⟩
    obtain ⟨k, hk⟩ := which_mem hmem next
    have hst : stepP (sigOf l size) l (j * h) next = some (k, h) := by
      unfold stepP
      rw [if_pos ⟨hr, by rw [hsz]; omega⟩, hsz, Int.toNat_natCast, hk]
      rfl
    have hkl := (step_pos hst).2.2
    rw [findP_some (by omega) hst, show j * h + h = (j + 1) * h by rw [Nat.succ_mul]]
    have e := bytes_append [(⟨(k : Int), 1, []⟩ : Tok)] (findP (sigOf l size) l ((j + 1) * h) ((k : Int) + 1))
    rw [bytes_copy k (by omega), ih (j + 1) _ (by omega)] at e
    exact e
/-- Searching for old bytes in themselves finds no literal byte. -/
theorem self_cost (l : List UInt8) (size : Int) (hl : l.length ≤ 16384) : Tk.bytes (refOf (sigOf l size) l) = 0 := by
  unfold refOf
  rw [bytes_join]
  have := self_bytes l size hl (l.length / hold size) 0 (-1) (by omega)
  rw [Nat.zero_mul] at this
  exact this
end Se
end Go.Proofs.Ytalkmkplmbmnkaa
namespace Go.Proofs.Ytalkmkplmbmnkaa
open Sg Tk Bl
namespace Se
/-- How many bytes one token stands for, of old bytes by blocks of h. -/
def span1 (l : List UInt8) (h : Nat) (t : Tok) : Nat := t.d.length + ((List.range t.m.toNat).map fun i => (at_ l h (t.f.toNat + i)).length).sum
def span (l : List UInt8) (h : Nat) (ts : List Tok) : Nat := (ts.map fun t => if Tk.right t then span1 l h t else 0).sum
theorem span_append (l : List UInt8) (h : Nat) (a b : List Tok) : span l h (a ++ b) = span l h a + span l h b := by simp [span]
theorem span_one (l : List UInt8) (h : Nat) (t : Tok) : span l h [t] = if Tk.right t then span1 l h t else 0 := by simp [span]
theorem two_span {a b c : Tok} (l : List UInt8) (h : Nat) (ha : Tk.right a = true) (hb : Tk.right b = true) (e : two a b = some c) : span1 l h c = span1 l h a + span1 l h b := by
  obtain ⟨a1, a2, a3, a4, a5⟩ := Tk.right_spec ha
  obtain ⟨b1, b2, b3, b4, b5⟩ := Tk.right_spec hb
  unfold two at e
  split at e
  · rename_i hc
    injection e with e
    subst e
    unfold span1
    rw [hc.1, hc.2.1]
    simp
  · split at e
    · rename_i hc
      injection e with e
      subst e
      rcases a5 with ⟨p1, p2⟩ | ⟨p1, _⟩
      · rcases b5 with ⟨q1, q2⟩ | ⟨q1, _⟩
        · unfold span1
          simp only [p2, q2, List.length_nil, Nat.zero_add]
          rw [show (a.m + b.m).toNat = a.m.toNat + b.m.toNat by omega, List.range_add, List.map_append, List.sum_append, List.map_map]
          congr 2
          apply List.map_congr_left
          intro i _
          show (at_ l h (a.f.toNat + (a.m.toNat + i))).length = (at_ l h (b.f.toNat + i)).length
          rw [show b.f.toNat + i = a.f.toNat + (a.m.toNat + i) by omega]
        · omega
      · omega
    · cases e
theorem span_step (l : List UInt8) (h : Nat) (out : List Tok) (t : Tok) (ho : ∀ x ∈ out, Tk.right x = true) : span l h (Tk.step out t) = span l h out + span l h [t] := by
  cases hr : Tk.right t with
  | false => rw [step_bad hr, span_one, hr]; simp
  | true =>
    rw [step_good hr, span_one, hr, if_pos rfl]
    rcases snoc_or out with rfl | ⟨o, a, rfl⟩
    · rw [push_nil, span_one, hr]; simp [span]
    · have ha := ho a (by simp)
      rw [push_last]
      cases e : two a t with
      | none => simp only; rw [span_append, span_one, hr, if_pos rfl]
      | some c =>
        simp only
        rw [span_append, span_append, span_one, span_one, ha, two_right ha hr e, if_pos rfl, if_pos rfl, two_span l h ha hr e]
        omega
theorem span_fold (l : List UInt8) (h : Nat) (ts : List Tok) : ∀ out, (∀ x ∈ out, Tk.right x = true) → span l h (ts.foldl Tk.step out) = span l h out + span l h ts := by
  induction ts with
  | nil => intro out _; simp [span]
  | cons t ts ih =>
    intro out ho
    rw [List.foldl_cons, ih _ (step_all ho), span_step l h out t ho]
    have : span l h (t :: ts) = span l h [t] + span l h ts := by rw [← span_append]; rfl
    omega
theorem span_join (l : List UInt8) (h : Nat) (ts : List Tok) : span l h (join ts) = span l h ts := by
  unfold join
  rw [span_fold l h ts [] (by simp)]
  simp [span]
theorem which_lt {bs : List Sign} {x : Sign} {next : Int} {k : Nat} (h : whichP bs x next = some k) : k < bs.length := by
  unfold whichP at h
  split at h
  · rename_i hn
    have := (List.getElem?_eq_some_iff.1 hn.2).1
    injection h with h
    omega
  · exact (List.findIdx?_eq_some_iff_getElem.1 h).1
theorem step_len {l b : List UInt8} {size : Int} (hl : l.length ≤ 16384) {at_ k m : Nat} {next : Int} (e : stepP (sigOf l size) b at_ next = some (k, m)) : (Bl.at_ l (hold size) k).length = m := by
  have hh := (hold_pos size).1
  have hsz : (sigOf l size).size = (hold size : Int) := rfl
  have htl : (sigOf l size).tail = ((l.length % hold size : Nat) : Int) := rfl
  have hbl : (sigOf l size).bs.length = l.length / hold size := full_len l (hold size)
  generalize hold size = h at *
  have hm := Nat.div_add_mod l.length h
  have hmlt := Nat.mod_lt l.length (show 0 < h by omega)
  unfold Bl.at_
  rw [List.length_take, List.length_drop]
  unfold stepP at e
  split at e
  · obtain ⟨k', hk, e2⟩ := Option.map_eq_some_iff.1 e
    injection e2 with e3 e4
    subst e3
    have hlt := which_lt hk
    rw [hbl] at hlt
    have hjh : (k' + 1) * h ≤ l.length := Nat.le_trans (Nat.mul_le_mul_right h hlt) (Nat.div_mul_le_self _ _)
    rw [Nat.succ_mul] at hjh
    rw [hsz] at e4
    omega
  · split at e
    · injection e with e
      injection e with e3 e4
      rw [hbl] at e3
      rw [htl] at e4
      subst e3
      rw [Nat.mul_comm] at hm
      omega
    · cases e
theorem span_find (l b : List UInt8) (size : Int) (hl : l.length ≤ 16384) : ∀ (d at_ : Nat) (next : Int), b.length - at_ ≤ d → at_ ≤ b.length → span l (hold size) (findP (sigOf l size) b at_ next) = b.length - at_ := by
  have hr := right_sigOf l size hl
  have hbs := (Sg.right_spec hr).2.2.1
  intro d
  induction d with
  | zero => intro at_ next h1 h2; rw [findP_end (by omega)]; simp [span]; omega
  | succ d ih =>
    intro at_ next h1 h2
    by_cases h0 : b.length ≤ at_
    · rw [findP_end h0]; simp [span]; omega
    · cases e : stepP (sigOf l size) b at_ next with
      | none =>
        rw [findP_none (by omega) e]
        have hd : ((b.drop at_).take 1).length = 1 := by rw [List.length_take, List.length_drop]; omega
        have e1 := span_append l (hold size) [(⟨0, 0, (b.drop at_).take 1⟩ : Tok)] (findP (sigOf l size) b (at_ + 1) (-1))
        rw [span_one, if_pos (right_lit (by intro h; rw [h] at hd; cases hd) (by omega)), ih (at_ + 1) (-1) (by omega) (by omega)] at e1
        unfold span1 at e1
        rw [hd] at e1
        simp at e1
        rw [show (⟨0, 0, (b.drop at_).take 1⟩ : Tok) :: findP (sigOf l size) b (at_ + 1) (-1) = [(⟨0, 0, (b.drop at_).take 1⟩ : Tok)] ++ findP (sigOf l size) b (at_ + 1) (-1) from rfl]
        simp only [List.cons_append, List.nil_append]
        omega
      | some q =>
        obtain ⟨k, m⟩ := q
        obtain ⟨p1, p2, p3⟩ := step_pos e
        have hk := step_len hl e
        rw [findP_some (by omega) e]
        have hrt : Tk.right (⟨(k : Int), 1, []⟩ : Tok) = true := Tk.right_mk (by simp only; omega) (by simp) (by simp only; omega) (by simp only; omega) (.inl ⟨by simp, rfl⟩)
        have e1 := span_append l (hold size) [(⟨(k : Int), 1, []⟩ : Tok)] (findP (sigOf l size) b (at_ + m) ((k : Int) + 1))
        rw [span_one, if_pos hrt, ih (at_ + m) _ (by omega) p2] at e1
        have e2 : span1 l (hold size) (⟨(k : Int), 1, []⟩ : Tok) = m := by
          unfold span1
          simp [hk]
        rw [e2] at e1
        simp only [List.cons_append, List.nil_append] at e1
        omega
/-- What is found stands for as many bytes as there are. -/
theorem span_ref (l b : List UInt8) (size : Int) (hl : l.length ≤ 16384) : span l (hold size) (refOf (sigOf l size) b) = b.length := by
  unfold refOf
  rw [span_join]
  have := span_find l b size hl b.length 0 (-1) (by omega) (by omega)
  simpa [findP] using this
theorem bytes_span (l : List UInt8) (h : Nat) (ts : List Tok) : Tk.bytes ts ≤ span l h ts := by
  induction ts with
  | nil => simp [Tk.bytes, span]
  | cons t ts ih =>
    have e1 := span_append l h [t] ts
    have e2 := bytes_append [t] ts
    rw [span_one] at e1
    rw [bytes_one] at e2
    have : (if Tk.right t then t.d.length else 0) ≤ if Tk.right t then span1 l h t else 0 := by
      split
      · unfold span1; omega
      · omega
    simp only [List.cons_append, List.nil_append] at e1 e2
    omega
/-- No more bytes are literal than there are. -/
theorem cost_le (l b : List UInt8) (size : Int) (hl : l.length ≤ 16384) : Tk.bytes (refOf (sigOf l size) b) ≤ b.length := by
  have := bytes_span l (hold size) (refOf (sigOf l size) b)
  rwa [span_ref l b size hl] at this
end Se
end Go.Proofs.Ytalkmkplmbmnkaa
namespace Go.Proofs.Ytalkmkplmbmnkaa
open Go Go.RowKit W
namespace Bl
set_option maxRecDepth 100000 in
set_option maxHeartbeats 2000000 in
theorem at_none (A : Option Addr) (c : Nat) (n : Nat) (size k : Int) (w : World) (hs : n ≤ 1000000) (hk : ¬ (0 ≤ k ∧ k < (count n (hold size) : Int))) :
    Calls Try.prog 13 #[.slice A n c, .int .i64 size, .int .i64 k] w fun e w' => e = .returned (.slice none 0 0) ∧ w' = w := by
  have hcn := Lib.hid (count_any n size w (by omega))
  generalize count n (hold size) = m at *
  by_cases h0 : k < 0
  · clear hk
    go_enter Try.func13, Try.ntmps13
    go_wp2
    go_ret
    exact ⟨rfl, rfl⟩
  · have h1 : (m : Int) ≤ k := by omega
    clear hk
    go_enter Try.func13, Try.ntmps13
    go_wp2_with fail
    go_at_call 28
    refine hcn.out.mono ?_
    rintro e w1 ⟨rfl, rfl⟩
    clear hcn
    go_wp2
    go_ret
    exact ⟨rfl, rfl⟩
end Bl
end Go.Proofs.Ytalkmkplmbmnkaa
namespace Go.Proofs.Ytalkmkplmbmnkaa
open Go Go.RowKit Go.Shelf W Sg Tk
namespace Se
/-- How many bytes the blocks from f on have, j of them. -/
def sumTo (l : List UInt8) (h f j : Nat) : Nat := ((List.range j).map fun i => (Bl.at_ l h (f + i)).length).sum
theorem sumTo_succ (l : List UInt8) (h f j : Nat) : sumTo l h f (j + 1) = sumTo l h f j + (Bl.at_ l h (f + j)).length := by simp [sumTo, List.range_succ]
theorem sumTo_le (l : List UInt8) (h f : Nat) {j m : Nat} (hj : j ≤ m) : sumTo l h f j ≤ sumTo l h f m := by
  induction m with
  | zero => obtain rfl : j = 0 := by omega
            exact Nat.le_refl _
  | succ m ih =>
    rcases Nat.lt_or_ge m j with h1 | h1
    · obtain rfl : j = m + 1 := by omega
      exact Nat.le_refl _
    · rw [sumTo_succ]; have := ih h1; omega
/-- The spans of the first k tokens and of a part of the next one are no more than all. -/
theorem span_part (l : List UInt8) (h : Nat) (L : List Tok) (hr : ∀ x ∈ L, Tk.right x = true) {k : Nat} (hk : k < L.length) (f m : Nat) (hf : (L[k]).f = (f : Int)) (hm : (L[k]).m = (m : Int)) :
    span l h (L.take (k + 1)) = span l h (L.take k) + (L[k]).d.length + sumTo l h f m ∧ span l h (L.take (k + 1)) ≤ span l h L := by
  constructor
  · rw [List.take_succ_eq_append_getElem hk, span_append, span_one, if_pos (hr _ (List.getElem_mem hk))]
    unfold span1 sumTo
    rw [hf, hm, Int.toNat_natCast, Int.toNat_natCast]
    omega
  · have := span_append l h (L.take (k + 1)) (L.drop (k + 1))
    rw [List.take_append_drop] at this
    omega
/-- block.At, whatever block is asked for: how many bytes. -/
theorem at_len_any (A : Option Addr) (c : Nat) (l : List UInt8) (size : Int) (k : Nat) (w : World) (hs : l.length ≤ 1000000) (hc : l.length ≤ c) (hr : RB w w.heap.size A l) :
    Calls Try.prog 13 #[.slice A l.length c, .int .i64 size, .int .i64 (k : Int)] w fun e w' => (∃ A' c', e = .returned (.slice A' (Bl.at_ l (Bl.hold size) k).length c')) ∧ Gr w w' := by
  have hh := (Bl.hold_pos size).1
  by_cases hk : k < Bl.count l.length (Bl.hold size)
  · refine (Bl.at_any A c l size k w hs hc hr hk).mono ?_
    rintro e w' ⟨A', c', rfl, _, hg⟩
    exact ⟨⟨A', c', rfl⟩, hg⟩
  · refine (Bl.at_none A c l.length size (k : Int) w hs (by omega)).mono ?_
    rintro e w' ⟨rfl, rfl⟩
    have : (Bl.at_ l (Bl.hold size) k).length = 0 := by
      have := mt (Bl.count_lt (n := l.length) (k := k) (show 0 < Bl.hold size by omega)).2 hk
      unfold Bl.at_
      rw [List.length_take, List.length_drop]
      omega
    rw [this]
    exact ⟨⟨none, 0, rfl⟩, Gr.refl _⟩
set_option maxRecDepth 100000 in
set_option maxHeartbeats 8000000 in
theorem self_walk (A Ab : Option Addr) (c cb : Nat) (l b : List UInt8) (size : Int) (w : World) (hc : l.length ≤ c) (hcm : c ≤ maxLen) (hr : RB w w.heap.size A l) (hcb : b.length ≤ cb) (hcmb : cb ≤ maxLen) (hrb : RB w w.heap.size Ab b) :
    Calls Try.prog 4 #[.slice A l.length c, .slice Ab b.length cb, .int .i64 size] w (Ret (eqv (.bool true)) w) := by
  have haw := Lib.hid (fun w => awake_any w)
  by_cases h1 : l.length ≤ 300
  · by_cases h2 : b.length ≤ 300
    · have hof := Lib.hid (Sg.of_any A c l size w (by omega) hc hcm hr)
      have hfew := sig_few l size (by omega)
      have hlen := huntP_len (sigOf l size) b
      have heq := huntP_eq (sigOf l size) b (by omega)
      have heq2 := huntP_eq (sigOf l size) l (by omega)
      have hsp := span_ref l b size (by omega)
      have hco := cost_le l b size (by omega)
      have hse := self_cost l size (by omega)
      rw [← heq] at hsp hco
      rw [← heq2] at hse
      have hrt : ∀ x ∈ huntP (sigOf l size) b, Tk.right x = true := by rw [heq]; exact join_all _
      obtain ⟨s, hs⟩ : ∃ s, sigOf l size = s := ⟨_, rfl⟩
      rw [hs] at hof hfew hlen hsp hco hse hrt
      have hfi := Lib.hid (fun A1 c1 w (h : SR w w.heap.size A1 s.bs) (h2 : RB w w.heap.size Ab b) => Se.of_any s A1 Ab c1 cb b w h (by omega) h2 hcb hcmb (by omega))
      have hcs := Lib.hid (fun A1 c1 w (h : SR w w.heap.size A1 s.bs) (h2 : RB w w.heap.size Ab b) => cost_any s A1 Ab c1 cb b w h (by omega) h2 hcb hcmb (by omega))
      have hcl := Lib.hid (fun A1 c1 w (h : SR w w.heap.size A1 s.bs) (h2 : RB w w.heap.size A l) => cost_any s A1 A c1 c l w h (by omega) h2 hc hcm (by omega))
      rw [hse] at hcl
      obtain ⟨L, hL⟩ : ∃ L, huntP s b = L := ⟨_, rfl⟩
      rw [hL] at hlen hsp hco hrt hfi hcs
      obtain ⟨q, hq⟩ : ∃ q, Tk.bytes L = q := ⟨_, rfl⟩
      rw [hq] at hco hcs
      clear hL heq heq2 hs hse hq
      have hla := Lib.hid (fun k w (h : RB w w.heap.size A l) => at_len_any A c l size k w (by omega) hc h)
      have i1 : (l.length : Int) ≤ 300 := by omega
      have i2 : (b.length : Int) ≤ 300 := by omega
      have iq : (q : Int) ≤ (b.length : Int) := by omega
      generalize hh : Bl.hold size = h at hla hsp
      replace hrt := Lib.hid hrt
      replace hsp := Lib.hid hsp
      replace hr := Lib.hid hr
      replace hrb := Lib.hid hrb
      clear hh
      go_enter Try.func4, Try.ntmps4
      go_wp2_with fail
      go_at_call 11
      refine hof.out.mono ?_
      rintro e W1 ⟨A1, c1, rfl, o1, g1⟩
      have ga := (Gr.refl W1).alloc (.cells (sigC s.size (.slice A1 s.bs.length c1) s.tail s.last) 44)
      have n1 := Lib.hid (Blk.new W1 44 (sigC s.size (.slice A1 s.bs.length c1) s.tail s.last))
      have G1 := Lib.hid (Gr.trans g1 ga)
      have s1 := Lib.hid (((OS.sr o1).below ga).more (Below.size ga))
      have r1 := Lib.hid ((hr.out.below G1.out).more (Below.size G1.out))
      have rb1 := Lib.hid ((hrb.out.below G1.out).more (Below.size G1.out))
      clear hof o1 g1 ga hr hrb
      go_wp2_with fail
      go_at_call 12
      refine (hfi.out A1 c1 _ s1.out rb1.out).mono ?_
      rintro e W2 ⟨A2, c2, rfl, o2, g2⟩
      replace n1 := Lib.hid (blk_more n1.out g2)
      replace G1 := Lib.hid (Gr.trans G1.out g2)
      replace s1 := Lib.hid ((s1.out.below g2).more (Below.size g2))
      replace r1 := Lib.hid ((r1.out.below g2).more (Below.size g2))
      replace rb1 := Lib.hid ((rb1.out.below g2).more (Below.size g2))
      have t2 := Lib.hid (OT.tr o2)
      have zW : W1.heap.size < W2.heap.size := n1.out.lt
      clear hfi o2 g2
      go_wp2
      go_loopw [9, 10] (fun v9 v10 wr => ∃ k : Nat, k ≤ L.length ∧ v9 = .int .i64 (span l h (L.take k) : Int) ∧ v10 = .int .i64 (k : Int) ∧ Hid (Gr W2 wr)) (fun _ v10 _ => L.length - (intOf v10).toNat)
      case atStart => exact ⟨0, by omega, by simp [span], rfl, Lib.hid (Gr.refl _)⟩
      case round =>
        obtain ⟨k, hk, rfl, rfl, hgr⟩ := hrel
        obtain ⟨wo, rfl⟩ : ∃ x, x = wr := ⟨_, rfl⟩
        by_cases hkl : k < L.length
        · obtain ⟨ad, rfl, hltb, e0, e1, e2⟩ := (t2.out.below hgr.out).at_ hkl
          have ij : (k : Int) < (L.length : Int) := by omega
          have hxr := hrt.out _ (List.getElem_mem hkl)
          obtain ⟨w1, w2, w3, w4, _⟩ := Tk.right_spec hxr
          obtain ⟨f, hf⟩ : ∃ f : Nat, (L[k]).f = (f : Int) := ⟨(L[k]).f.toNat, by omega⟩
          obtain ⟨m, hm⟩ : ∃ m : Nat, (L[k]).m = (m : Int) := ⟨(L[k]).m.toNat, by omega⟩
          obtain ⟨p1, p2⟩ := span_part l h L hrt.out hkl f m hf hm
          rw [hsp.out] at p2
          rw [hf] at e0
          rw [hm] at e1
          have hfm : f + m ≤ 4097 := by omega
          obtain ⟨d, hd⟩ : ∃ d, (L[k]).d = d := ⟨_, rfl⟩
          rw [hd] at e2 p1
          have htk : span l h (L.take (k + 1)) = span l h (L.take k) + d.length + sumTo l h f m := p1
          have hbd : span l h (L.take k) + d.length + sumTo l h f m ≤ 300 := by omega
          generalize span l h (L.take k) = z at *
          replace htk := Lib.hid htk
          clear hxr w1 w2 w3 w4 hf hm hd p1 p2
          have kw1 : IntKind.i64.wrap ((z : Int) + (d.length : Int)) = (z : Int) + (d.length : Int) := IntWalk.i64_in _ (by omega)
          have kw2 : IntKind.i64.wrap ((f : Int) + (m : Int)) = (f : Int) + (m : Int) := IntWalk.i64_in _ (by omega)
          have kw3 : IntKind.i64.wrap ((k : Int) + 1) = (k : Int) + 1 := IntWalk.i64_in _ (by omega)
          go_wp2
          go_loopw [9, 11] (fun v9 v11 wr2 => ∃ j : Nat, j ≤ m ∧ v9 = .int .i64 ((z + d.length + sumTo l h f j : Nat) : Int) ∧ v11 = .int .i64 ((f + j : Nat) : Int) ∧ Hid (Gr wo wr2)) (fun _ v11 _ => f + m - (intOf v11).toNat)
          case atStart => exact ⟨0, by omega, by simp [sumTo], by simp, Lib.hid (Gr.refl _)⟩
          case round =>
            obtain ⟨j, hj, rfl, rfl, hg2⟩ := hrel
            have hz2 := Below.size hg2.out
            have hlb : (ad.add (k * 3)).block < wo.heap.size := by rw [block_of_add]; exact Nat.lt_of_lt_of_le hltb (Below.size hgr.out)
            have x0 := (Below.cell (p := ad.add (k * 3)) hg2.out hlb).trans e0
            have x1 := (Below.cell (p := ⟨(ad.add (k * 3)).block, (ad.add (k * 3)).off + 1, none⟩) hg2.out hlb).trans e1
            have hlb2 : (ad.add (k * 3)).block < wr.heap.size := Nat.lt_of_lt_of_le hlb hz2
            obtain ⟨q9, hq9⟩ : ∃ q9, z + d.length + sumTo l h f j = q9 := ⟨_, rfl⟩
            obtain ⟨p9, hp9⟩ : ∃ p9, f + j = p9 := ⟨_, rfl⟩
            have hs1 := sumTo_succ l h f j
            by_cases hjm : j < m
            · have hs2 := sumTo_le l h f (show j + 1 ≤ m by omega)
              rw [hs1, hp9] at hs2
              rw [hp9] at hs1
              have ip : (p9 : Int) < (f : Int) + (m : Int) := by omega
              have hla9 := hla.out p9
              obtain ⟨n9, hn9⟩ : ∃ n9, (Bl.at_ l h p9).length = n9 := ⟨_, rfl⟩
              rw [hn9] at hla9 hs1 hs2
              replace hla9 := Lib.hid hla9
              have kw4 : IntKind.i64.wrap ((q9 : Int) + (n9 : Int)) = (q9 : Int) + (n9 : Int) := IntWalk.i64_in _ (by omega)
              have kw5 : IntKind.i64.wrap ((p9 : Int) + 1) = (p9 : Int) + 1 := IntWalk.i64_in _ (by omega)
              have hq2 : z + d.length + sumTo l h f (j + 1) = q9 + n9 := by omega
              have hp2 : f + (j + 1) = p9 + 1 := by omega
              have hms : f + m - (p9 + 1) < f + m - p9 := by omega
              rw [hq9, hp9]
              replace hq2 := Lib.hid hq2
              replace hp2 := Lib.hid hp2
              clear hq9 hp9 hs1 hs2 hn9
              go_wp2
              go_quiet (fail)
              generalize hV : wr.drewN _ = V
              have hgV : Gr wr V := by rw [← hV]; exact below_drewN (Below.refl _ _) _
              have hg3 := Lib.hid (Gr.trans hg2.out hgV)
              have gg3 := Lib.hid (Gr.trans hgr.out hg3.out)
              have rV := Lib.hid ((r1.out.below gg3.out).more (Below.size gg3.out))
              clear hV x0 x1 hgV hg2
              go_wp2_with fail
              go_at_call 13
              refine (hla9.out V rV.out).mono ?_
              rintro e W5 ⟨⟨A5, c5, rfl⟩, g5⟩
              have hg4 := Lib.hid (Gr.trans hg3.out g5)
              clear hla9 g5 rV gg3 hg3
              go_wp2
              exact ⟨⟨j + 1, by omega, by rw [hq2.out]; go_num, by rw [hp2.out]; go_num, hg4⟩, by simp [intOf]; omega⟩
            · obtain rfl : j = m := by omega
              have ip : ¬ (p9 : Int) < (f : Int) + (j : Int) := by omega
              rw [hq9, hp9]
              rw [hq9] at htk
              have htk2 := Lib.hid htk.out
              clear hq9 hp9 hs1 htk
              go_wp2
              go_quiet (fail)
              generalize hV : wr.drewN _ = V
              have hgV : Gr wr V := by rw [← hV]; exact below_drewN (Below.refl _ _) _
              have hg3 := Lib.hid (Gr.trans hgr.out (Gr.trans hg2.out hgV))
              clear hV x0 x1 hgV hg2 hgr
              go_wp2
              exact ⟨⟨k + 1, by omega, by rw [htk2.out], by go_num, hg3⟩, by simp [intOf]; omega⟩
        · obtain rfl : k = L.length := by omega
          rw [List.take_length, hsp.out]
          have n2 := Lib.hid (blk_more n1.out hgr.out)
          have s2 := Lib.hid ((s1.out.below hgr.out).more (Below.size hgr.out))
          have r2 := Lib.hid ((r1.out.below hgr.out).more (Below.size hgr.out))
          have rb2 := Lib.hid ((rb1.out.below hgr.out).more (Below.size hgr.out))
          have G2 := Lib.hid (Gr.trans G1.out hgr.out)
          clear n1 s1 r1 rb1 G1 hgr hla
          have y0 := n2.out.cell 0
          have y1 := n2.out.cell 1
          have y2 := n2.out.cell 2
          have y3 := n2.out.cell 3
          have y4 := n2.out.cell 4
          have y5 := n2.out.cell 5
          go_wp2_with fail
          go_at_call 5
          refine (haw.out _).mono ?_
          rintro e W5 ⟨rfl, g5⟩
          clear y0 y1 y2 y3 y4 y5
          replace n2 := Lib.hid (blk_more n2.out g5)
          replace s2 := Lib.hid ((s2.out.below g5).more (Below.size g5))
          replace r2 := Lib.hid ((r2.out.below g5).more (Below.size g5))
          replace rb2 := Lib.hid ((rb2.out.below g5).more (Below.size g5))
          replace G2 := Lib.hid (Gr.trans G2.out g5)
          clear g5
          have y0 := n2.out.cell 0
          have y1 := n2.out.cell 1
          have y2 := n2.out.cell 2
          have y3 := n2.out.cell 3
          have y4 := n2.out.cell 4
          have y5 := n2.out.cell 5
          go_wp2_with fail
          go_at_call 14
          refine (hcl.out A1 c1 _ s2.out r2.out).mono ?_
          rintro e W6 ⟨rfl, g5⟩
          clear y0 y1 y2 y3 y4 y5
          replace n2 := Lib.hid (blk_more n2.out g5)
          replace s2 := Lib.hid ((s2.out.below g5).more (Below.size g5))
          replace r2 := Lib.hid ((r2.out.below g5).more (Below.size g5))
          replace rb2 := Lib.hid ((rb2.out.below g5).more (Below.size g5))
          replace G2 := Lib.hid (Gr.trans G2.out g5)
          clear g5
          have y0 := n2.out.cell 0
          have y1 := n2.out.cell 1
          have y2 := n2.out.cell 2
          have y3 := n2.out.cell 3
          have y4 := n2.out.cell 4
          have y5 := n2.out.cell 5
          go_wp2_with fail
          go_at_call 14
          refine (hcs.out A1 c1 _ s2.out rb2.out).mono ?_
          rintro e W7 ⟨rfl, g5⟩
          clear y0 y1 y2 y3 y4 y5
          replace n2 := Lib.hid (blk_more n2.out g5)
          replace s2 := Lib.hid ((s2.out.below g5).more (Below.size g5))
          replace r2 := Lib.hid ((r2.out.below g5).more (Below.size g5))
          replace rb2 := Lib.hid ((rb2.out.below g5).more (Below.size g5))
          replace G2 := Lib.hid (Gr.trans G2.out g5)
          clear g5
          go_wp2
          go_ret
          exact ⟨_, rfl, rfl, G2.out⟩
    · have i1 : (l.length : Int) ≤ 300 := by omega
      have i2 : ¬ (b.length : Int) ≤ 300 := by omega
      clear hr hrb
      go_enter Try.func4, Try.ntmps4
      go_wp2_with fail
      go_at_call 5
      refine (haw.out _).mono ?_
      rintro e W1 ⟨rfl, g1⟩
      go_wp2
      go_ret
      exact ⟨_, rfl, rfl, g1⟩
  · have i1 : ¬ (l.length : Int) ≤ 300 := by omega
    clear hr hrb
    go_enter Try.func4, Try.ntmps4
    go_wp2_with fail
    go_at_call 5
    refine (haw.out _).mono ?_
    rintro e W1 ⟨rfl, g1⟩
    go_wp2
    go_ret
    exact ⟨_, rfl, rfl, g1⟩
end Se
end Go.Proofs.Ytalkmkplmbmnkaa
