/- The walk of token.Join. No condition but sizes. -/
import Derived.Test.YtgnogoghfendpaaTokBytes
import Derived.Test.YtgnogoghfendpaaGrowM
set_option linter.unusedVariables false
set_option linter.unusedSimpArgs false
namespace Go.Proofs.Ytgnogoghfendpaa
open Go Go.RowKit W
namespace Tk
theorem own_add (g n : Nat) : (⟨g, 0, none⟩ : Addr).add n = ⟨g, n, none⟩ := by unfold Addr.add; split <;> simp_all
theorem run_idx3 (w : World) (g n c k : Nat) (hk : k < n) : (Instr.indexAt 26 (.slice (some ⟨g, 0, none⟩) n c) (.int .i64 (k : Int))).run Try.prog w = .ok (.pointer (some ⟨g, k * 3, none⟩)) w := by
  have := run_idxR (P := Try.prog) w Try.underlying26 (size := 3) (by kernel_rfl) ⟨g, 0, none⟩ n c k hk
  rwa [own_add] at this
theorem run_ld3 (w : World) (g k : Nat) (t : Tok) (h0 : w.cell? ⟨g, k, none⟩ = some (.int .i64 t.f)) (h1 : w.cell? ⟨g, k + 1, none⟩ = some (.int .i64 t.m)) (h2 : w.cell? ⟨g, k + 2, none⟩ = some (.string ⟨t.d.toArray⟩)) :
    (Instr.loadAt 35 (.pointer (some ⟨g, k, none⟩))).run Try.prog w = .ok (tokV t) w := by
  simp [Instr.loadAt, go_sem, h0, h1, h2]
theorem ot_last {E : TypeId} {w : World} {base g c : Nat} {o : List Tok} {a : Tok} (h : OT E w base (.slice (some ⟨g, 0, none⟩) (o.length + 1) c) (o ++ [a])) :
    (w.cell? ⟨g, o.length * 3, none⟩ = some (.int .i64 a.f) ∧ w.cell? ⟨g, o.length * 3 + 1, none⟩ = some (.int .i64 a.m) ∧ w.cell? ⟨g, o.length * 3 + 2, none⟩ = some (.string ⟨a.d.toArray⟩)) ∧
    base ≤ g ∧ g < w.heap.size ∧ ∀ j, w.frozen? ⟨g, j, none⟩ = false := by
  have hl : (o ++ [a]).length = o.length + 1 := by simp
  unfold OT OR at h
  rw [hl] at h
  have e : ∀ j u, (tc a)[j]? = some u → (tcs (o ++ [a]))[o.length * 3 + j]? = some u := by
    intro j u hu
    rw [tcs_append, tcs_one, ← tcs_len, List.getElem?_append_right (by omega), Nat.add_sub_cancel_left]
    exact hu
  have hc := World.ownsRow.cells h (g := g) rfl
  have hx : ∀ j u, (tc a)[j]? = some u → w.cell? ⟨g, o.length * 3 + j, none⟩ = some u := by
    intro j u hu
    have := hc _ u (e j u hu)
    rwa [own_add] at this
  have hlt := World.ownsRow.lt h g rfl
  exact ⟨⟨hx 0 _ rfl, hx 1 _ rfl, hx 2 _ rfl⟩, hlt.1, hlt.2, fun j => World.ownsRow.frozenAt h j⟩
theorem stored7 (ρ : Operand → Value) (w : World) (B : Nat) (z : Tok) {x y : Tmp} (h1 : isNew B 35 #[.int .i64 0, .int .i64 0, .string ⟨#[]⟩] (ρ (.tmp x)) w) (h2 : eqv (tokV z) (ρ (.tmp y)) w) {o : Oper} (ho : o.op = .store 35 (.tmp x) (.tmp y)) : ∃ w', (execOp ρ o).run Try.prog w = .ok .skip w' := by
  obtain ⟨g, hv, _, hb⟩ := h1
  have h2 : ρ (.tmp y) = tokV z := h2
  unfold execOp
  simp only [ho, hv, h2]
  have := run_storeVar_row (P := Try.prog) w g 35 35 _ #[.int .i64 z.f, .int .i64 z.m, .string ⟨z.d.toArray⟩] hb (tokInfo _ _ _) rfl (by simp [Value.oneCell'])
  refine ⟨w.setRow g #[.int .i64 z.f, .int .i64 z.m, .string ⟨z.d.toArray⟩], ?_⟩
  simp only [Instr.storeAt, Instr.sureAddr, Sem.run_bind, Sem.run_pure, Result.andThen_ok, tokV, this]
def JR (w wr : World) (J : List Tok) (v : Value) : Prop := ∃ A c, v = .slice A J.length c ∧ OT 35 wr w.heap.size (.slice A J.length c) J
theorem fold_snoc (l : List Tok) (k : Nat) (h : k < l.length) : (l.take (k + 1)).foldl step [] = step ((l.take k).foldl step []) l[k] := by
  rw [List.take_succ_eq_append_getElem h, List.foldl_append]
  rfl
theorem fold_len (l : List Tok) : ∀ out, (l.foldl step out).length ≤ out.length + l.length := by
  induction l with
  | nil => intro out; simp
  | cons t l ih =>
    intro out
    have h1 : (step out t).length ≤ out.length + 1 := by
      cases ht : right t
      · rw [step_bad ht]; omega
      · rw [step_good ht]
        rcases snoc_or out with rfl | ⟨o, a, rfl⟩
        · rw [push_nil]; simp
        · rw [push_last]
          cases two a t <;> simp
    have := ih (step out t)
    rw [List.foldl_cons, List.length_cons]
    omega
set_option maxRecDepth 100000 in
set_option maxHeartbeats 8000000 in
theorem join_any (A : Option Addr) (c : Nat) (l : List Tok) (w : World) (hl : TR w w.heap.size A l) (hf : Fits l) (hk40 : l.length ≤ 1000000) :
    Calls Try.prog 50 #[.slice A l.length c] w fun e w' => JR w w' (join l) (match e with | .returned v => v | _ => .bool false) ∧ (∃ v, e = .returned v) ∧ Gr w w' := by
  have hl' := Lib.hid hl
  have hf' := Lib.hid hf.2
  clear hl hf
  go_enter Try.func50, Try.ntmps50
  go_wp2
  go_loopw [3, 5, 6, 7, 8, 11] (fun out _ _ _ _ i wr => ∃ k : Nat, k ≤ l.length ∧ i = .int .i64 (k : Int) ∧ JR w wr ((l.take k).foldl step []) out ∧ Gr w wr) (fun _ _ _ _ _ i _ => l.length - (intOf i).toNat)
  case atStart => exact ⟨0, by omega, rfl, ⟨none, 0, rfl, OT.nil_ _ _ _⟩, Gr.refl w⟩
  case round =>
    obtain ⟨k, hk, rfl, ⟨A0, c0, rfl, ho⟩, hg⟩ := hrel
    by_cases h : k < l.length
    · obtain ⟨ad, hA, hlt, e0, e1, e2⟩ := (hl'.out.below hg).at_ h
      subst hA
      have hs := Lib.hid (fold_snoc l k h)
      have hfl := fold_len (l.take k) []
      rw [List.length_take, List.length_nil] at hfl
      have hfk := hf'.out l[k] (List.getElem_mem h)
      have hall := fold_all (l.take k) [] (by simp)
      generalize (l.take k).foldl step [] = J at *
      generalize l[k] = t at *
      have hJ : J.length ≤ 1000000 := by omega
      clear hfl
      have hro := Lib.hid (fun w => right_any t w hfk)
      have hd := hfk.2.2.2.2
      have ga := Lib.hid (Gr.alloc hg (.cells #[.int .i64 t.f, .int .i64 t.m, .string ⟨t.d.toArray⟩] 35))
      have oa := Lib.hid (ho.alloc (.cells #[.int .i64 t.f, .int .i64 t.m, .string ⟨t.d.toArray⟩] 35))
      have bx := Lib.hid (Blk.new wr 35 #[.int .i64 t.f, .int .i64 t.m, .string ⟨t.d.toArray⟩])
      have hwr := hg.size
      clear hg hfk ho
      cases hr : right t
      · rw [hr] at hro
        replace hr := Lib.hid hr
        clear hall bx
        go_wp2_with fail
        go_at_call 22
        refine (hro.out _).mono ?_
        rintro e w1 ⟨rfl, hg1⟩
        have g1 := Lib.hid (Gr.trans ga.out hg1)
        have o1 := Lib.hid (oa.out.below hg1)
        clear hro hg1 ga oa
        go_wp2
        go_roundw
        case rel => exact ⟨k + 1, by omega, by go_num, by rw [hs.out, step_bad hr.out]; exact ⟨_, _, rfl, o1.out⟩, g1.out⟩
        case measure => simp [intOf]; omega
      · rw [hr] at hro
        rw [step_good hr] at hs
        have hrt := Lib.hid hr
        clear hr
        go_wp2_with fail
        go_at_call 22
        refine (hro.out _).mono ?_
        rintro e w1 ⟨rfl, hg1⟩
        have g1 := Lib.hid (Gr.trans ga.out hg1)
        have o1 := Lib.hid (oa.out.below hg1)
        have b1 := Lib.hid (blk_more bx.out hg1)
        clear hro hg1 ga oa bx
        rcases snoc_or J with rfl | ⟨o, a, rfl⟩
        · have x := b1.out
          have x0 := x.cell 0
          have x1 := x.cell 1
          have x2 := x.cell 2
          clear x b1
          have oL := Lib.hid (o1.out.alloc (.cells #[.int .i64 t.f, .int .i64 t.m, .string ⟨t.d.toArray⟩] 35))
          have nL := Lib.hid (TR.new1 w1 35 t)
          have gL := Lib.hid (Gr.alloc g1.out (.cells #[.int .i64 t.f, .int .i64 t.m, .string ⟨t.d.toArray⟩] 35))
          have hWw := Below.size g1.out
          go_wp2_with (first
            | (refine wpList_append_rows (v := .slice A0 0 c0) rfl (.tmp 38) (.tmp 40) 26 rfl Try.underlying26 tokRow rfl (by exact oL.out) (w1.heap.size + 1) _ 1 1 (tcs [t]) rfl (by exact nL.out) (tcs_one_cell _) (by unfold maxLen; simp <;> omega) (by simp <;> omega) (by simp <;> omega) (tcs ([] ++ [t])) (tcs_append _ _) ([] ++ [t]).length (by simp) ?_; intro A9 c9 w9 o9 b9)
            | (refine step_append_rows (v := .slice A0 0 c0) rfl (.tmp 38) (.tmp 40) 26 rfl Try.underlying26 tokRow rfl (by exact oL.out) (w1.heap.size + 1) _ 1 1 (tcs [t]) rfl (by exact nL.out) (tcs_one_cell _) (by unfold maxLen; simp <;> omega) (by simp <;> omega) (by simp <;> omega) (tcs ([] ++ [t])) (tcs_append _ _) ([] ++ [t]).length (by simp) ?_; intro A9 c9 w9 o9 b9))
          have g9 : Gr w w9 := Below.trans gL.out b9
          clear oL nL gL b9
          go_wp2
          go_roundw
          case rel => exact ⟨k + 1, by omega, by go_num, by rw [hs.out]; exact ⟨A9, c9, by first | rfl | simp, by first | exact o9 | (unfold OT; simpa using o9)⟩, g9⟩
          case measure => simp [intOf]; omega
        · have hgf : ∃ g, A0 = some ⟨g, 0, none⟩ := by
            rcases (show OR _ _ _ _ _ _ _ from o1.out).2 with ⟨hv, hn⟩ | ⟨g, cap, cur, hv, _⟩
            · simp at hn
            · injection hv with h1
              exact ⟨g, h1⟩
          obtain ⟨g, rfl⟩ := hgf
          have hol : (o ++ [a]).length = o.length + 1 := by simp
          have haR : right a = true := hall a (by simp)
          have o1' : OT 35 w1 w.heap.size (.slice (some ⟨g, 0, none⟩) (o.length + 1) c0) (o ++ [a]) := hol ▸ o1.out
          obtain ⟨⟨y0, y1, y2⟩, hgb, hgl, hfz⟩ := ot_last o1'
          have x := b1.out
          have x0 := x.cell 0
          have x1 := x.cell 1
          have x2 := x.cell 2
          have hbl := x.lt
          have hpu := Lib.hid (push_last o a t)
          clear x o1 hall
          replace hgf := hfz
          clear hfz
          replace haR := Lib.hid haR
          replace o1' := Lib.hid o1'
          replace y0 := Lib.hid y0
          replace y1 := Lib.hid y1
          replace y2 := Lib.hid y2
          replace hgf := Lib.hid hgf
          have hO : o.length < 1000000 := by rw [hol] at hJ; omega
          clear hol hJ
          cases htwo : two a t with
          | some z =>
            replace htwo := Lib.hid htwo
            go_wp2
            refine region_grow (by kernel_rfl) (by kernel_rfl) ?_
            refine GW.mv rfl trivial (.inl rfl) (kn0 (t := 3) (c := .slice (some ⟨g, 0, none⟩) (o.length + 1) c0) (by kernel_rfl) rfl) (eqv_lasts _) ?_
            refine GW.mv rfl trivial (.inl rfl) (kn0 (t := 6) (c := .int .i64 ((o.length : Int) + 1)) (by kernel_rfl) rfl) (eqv_lasts _) ?_
            refine GW.bin (.int .i64 (o.length : Int)) rfl trivial rfl (kn (t := 24) (j := 1) (by kernel_rfl)) knc (fun w' => by simp [go_sem]; exact IntWalk.i64_in _ (by omega)) ?_
            refine GW.p2 (.pointer (some ⟨g, o.length * 3, none⟩)) rfl trivial (kn (t := 23) (j := 0) (by kernel_rfl)) (kn (t := 25) (j := 2) (by kernel_rfl)) (fun ρ w' h1 h2 hg => by show ((Instr.indexAt 26 (ρ (.tmp 23)) (ρ (.tmp 25)) >>= fun v => pure (Next.value v)) : Sem Next).run Try.prog w' = _; rw [h1, h2, Sem.run_bind, run_idx3 w' g (o.length + 1) c0 o.length (by omega)]; rfl) ?_
            refine GW.p1 (tokV a) rfl trivial (kn (t := 26) (j := 3) (by kernel_rfl)) (fun ρ w' hρ hg => by show ((Instr.loadAt 35 (ρ (.tmp 26)) >>= fun v => pure (Next.value v)) : Sem Next).run Try.prog w' = _; rw [hρ, Sem.run_bind, run_ld3 w' g (o.length * 3) a ((hg.cell (p := ⟨g, _, none⟩) hgl).trans y0.out) ((hg.cell (p := ⟨g, _, none⟩) hgl).trans y1.out) ((hg.cell (p := ⟨g, _, none⟩) hgl).trans y2.out)]; rfl) ?_
            refine GW.p1 (tokV t) rfl trivial (kn0 (t := 5) (c := .pointer (some ⟨wr.heap.size, 0, none⟩)) (by kernel_rfl) rfl) (fun ρ w' hρ hg => by show ((Instr.loadAt 35 (ρ (.tmp 5)) >>= fun v => pure (Next.value v)) : Sem Next).run Try.prog w' = _; rw [hρ, Sem.run_bind, run_ld3 w' wr.heap.size 0 t ((hg.cell (p := ⟨wr.heap.size, _, none⟩) hbl).trans x0) ((hg.cell (p := ⟨wr.heap.size, _, none⟩) hbl).trans x1) ((hg.cell (p := ⟨wr.heap.size, _, none⟩) hbl).trans x2)]; rfl) ?_
            refine GW.call2 (eqv (.tuple #[tokV z, .bool true])) rfl trivial rfl Try.func58 (by kernel_rfl) (by kernel_rfl) (eqv_lasts _) (kn (t := 27) (j := 4) (by kernel_rfl)) (kn (t := 28) (j := 5) (by kernel_rfl)) (fun v u w' hg hv hu => ?_) ?_
            · obtain rfl : v = _ := hv
              obtain rfl : u = _ := hu
              refine (put_any a t w' haR.out hrt.out).mono ?_
              rintro e w2 ⟨rfl, hg2⟩
              exact ⟨_, rfl, by rw [htwo.out]; rfl, hg2⟩
            refine GW.mv rfl trivial (.inl rfl) (kn (t := 29) (j := 6) (by kernel_rfl)) (eqv_lasts _) ?_
            refine GW.p1 (tokV z) rfl trivial (kn (t := 22) (j := 7) (by kernel_rfl)) (fun ρ w' hρ hg => by simp [execOp, hρ, go_sem]) ?_
            refine GW.p1 (.bool true) rfl trivial (kn (t := 22) (j := 7) (by kernel_rfl)) (fun ρ w' hρ hg => by simp [execOp, hρ, go_sem]) ?_
            refine GW.alloc #[.int .i64 0, .int .i64 0, .string ⟨#[]⟩] rfl trivial rfl (fun w => by kernel_rfl) ?_
            refine GW.tailLate 9 22 31 (.tuple #[tokV z, .bool true]) (.bool true) _ _ 7 10 8 7 30 _ _ _ _ (m := 11) (by omega) (by kernel_rfl) (by kernel_rfl) rfl rfl rfl (fun ρ w hρ => by simp [execOp, hρ, go_sem]) (fun _ => rfl) rfl rfl (by omega) (by omega) (fun v w h => h) rfl rfl rfl rfl rfl rfl (by omega) (by omega) rfl rfl (by omega) (by omega) (fun ρ w hg h1 h2 => stored7 ρ w _ z h1 h2 rfl) (fun w' hg => ?_)
            intro v0 _ v1 _ v2 _ v3 _ v4 _ v5 _ v6 _ v7 _ v8 h8 v9 h9 v10 h10
            obtain rfl : v8 = (tokV z) := h8
            obtain rfl : v9 = (.bool true) := h9
            simp only [GFin, List.take_succ_cons, List.take_zero, List.drop_succ_cons, List.drop_zero, Act.put, List.setIfInBounds_toArray, List.set_cons_succ, List.set_cons_zero]
            obtain ⟨g7, rfl, hg7, n7⟩ := h10
            have hszw := Below.size hg
            have hgh := Lib.hid hg
            replace n7 := Lib.hid n7
            clear y0 y1 y2 hgf hg x0 x1 x2
            go_wp2_with (first
              | (refine wpList_store_blk rfl 35 _ _ rfl g7 #[.int .i64 z.f, .int .i64 z.m, .string ⟨z.d.toArray⟩] rfl rfl 35 #[.int .i64 0, .int .i64 0, .string ⟨#[]⟩] n7.out (tokInfo _ _ _) rfl (by simp [Value.oneCell']) ?_; intro w4 n8 kn hs4; have Gw4 : Gr w1 w4 := Below.trans hgh.out (Below.mono (Kb.below kn (Nat.le_of_lt n7.out.lt)) hg7); have o4 := o1'.out.below Gw4; have b4 := blk_more b1.out Gw4; have G4 := Lib.hid (Gr.trans g1.out Gw4); have x0 := n8.cell 0; have x1 := n8.cell 1; have x2 := n8.cell 2; obtain ⟨⟨d0, d1, d2⟩, _, hgl4, hz4⟩ := ot_last o4; have f0 := hz4 (o.length * 3); have d1' : (w4.setCell ⟨g, o.length * 3, none⟩ (.int .i64 z.f)).cell? ⟨g, o.length * 3 + 1, none⟩ = some (.int .i64 a.m) := (World.cell?_setCell_other w4 _ _ _ (by intro he; injection he <;> omega)).trans d1; have f1 : (w4.setCell ⟨g, o.length * 3, none⟩ (.int .i64 z.f)).frozen? ⟨g, o.length * 3 + 1, none⟩ = false := (by rw [World.frozen?_setCell]; exact hz4 _); have d2' : ((w4.setCell ⟨g, o.length * 3, none⟩ (.int .i64 z.f)).setCell ⟨g, o.length * 3 + 1, none⟩ (.int .i64 z.m)).cell? ⟨g, o.length * 3 + 2, none⟩ = some (.string ⟨a.d.toArray⟩) := (World.cell?_setCell_other _ _ _ _ (by intro he; injection he <;> omega)).trans ((World.cell?_setCell_other w4 _ _ _ (by intro he; injection he <;> omega)).trans d2); have f2 : ((w4.setCell ⟨g, o.length * 3, none⟩ (.int .i64 z.f)).setCell ⟨g, o.length * 3 + 1, none⟩ (.int .i64 z.m)).frozen? ⟨g, o.length * 3 + 2, none⟩ = false := (by rw [World.frozen?_setCell, World.frozen?_setCell]; exact hz4 _); have oS := Lib.hid (OT.set3 (b := z) o4); have gS := Lib.hid ((((G4.out.setCell (p := ⟨g, o.length * 3, none⟩) hgb (.int .i64 z.f)).setCell (p := ⟨g, o.length * 3 + 1, none⟩) hgb (.int .i64 z.m)).setCell (p := ⟨g, o.length * 3 + 2, none⟩) hgb (.string ⟨z.d.toArray⟩))); clear d1 d2 hz4 o4 b4 G4 Gw4 kn hs4 n8 n7 b1 g1 o1'))
            go_roundw
            case rel => exact ⟨k + 1, by omega, by go_num, by rw [hs.out, hpu.out, htwo.out]; exact ⟨some ⟨g, 0, none⟩, c0, by simp, by simpa using oS.out⟩, gS.out⟩
            case measure => simp [intOf]; omega
          | none =>
            replace htwo := Lib.hid htwo
            go_wp2
            refine region_grow (by kernel_rfl) (by kernel_rfl) ?_
            refine GW.mv rfl trivial (.inl rfl) (kn0 (t := 3) (c := .slice (some ⟨g, 0, none⟩) (o.length + 1) c0) (by kernel_rfl) rfl) (eqv_lasts _) ?_
            refine GW.mv rfl trivial (.inl rfl) (kn0 (t := 6) (c := .int .i64 ((o.length : Int) + 1)) (by kernel_rfl) rfl) (eqv_lasts _) ?_
            refine GW.bin (.int .i64 (o.length : Int)) rfl trivial rfl (kn (t := 24) (j := 1) (by kernel_rfl)) knc (fun w' => by simp [go_sem]; exact IntWalk.i64_in _ (by omega)) ?_
            refine GW.p2 (.pointer (some ⟨g, o.length * 3, none⟩)) rfl trivial (kn (t := 23) (j := 0) (by kernel_rfl)) (kn (t := 25) (j := 2) (by kernel_rfl)) (fun ρ w' h1 h2 hg => by show ((Instr.indexAt 26 (ρ (.tmp 23)) (ρ (.tmp 25)) >>= fun v => pure (Next.value v)) : Sem Next).run Try.prog w' = _; rw [h1, h2, Sem.run_bind, run_idx3 w' g (o.length + 1) c0 o.length (by omega)]; rfl) ?_
            refine GW.p1 (tokV a) rfl trivial (kn (t := 26) (j := 3) (by kernel_rfl)) (fun ρ w' hρ hg => by show ((Instr.loadAt 35 (ρ (.tmp 26)) >>= fun v => pure (Next.value v)) : Sem Next).run Try.prog w' = _; rw [hρ, Sem.run_bind, run_ld3 w' g (o.length * 3) a ((hg.cell (p := ⟨g, _, none⟩) hgl).trans y0.out) ((hg.cell (p := ⟨g, _, none⟩) hgl).trans y1.out) ((hg.cell (p := ⟨g, _, none⟩) hgl).trans y2.out)]; rfl) ?_
            refine GW.p1 (tokV t) rfl trivial (kn0 (t := 5) (c := .pointer (some ⟨wr.heap.size, 0, none⟩)) (by kernel_rfl) rfl) (fun ρ w' hρ hg => by show ((Instr.loadAt 35 (ρ (.tmp 5)) >>= fun v => pure (Next.value v)) : Sem Next).run Try.prog w' = _; rw [hρ, Sem.run_bind, run_ld3 w' wr.heap.size 0 t ((hg.cell (p := ⟨wr.heap.size, _, none⟩) hbl).trans x0) ((hg.cell (p := ⟨wr.heap.size, _, none⟩) hbl).trans x1) ((hg.cell (p := ⟨wr.heap.size, _, none⟩) hbl).trans x2)]; rfl) ?_
            refine GW.call2 (eqv (.tuple #[tokV ⟨0, 0, []⟩, .bool false])) rfl trivial rfl Try.func58 (by kernel_rfl) (by kernel_rfl) (eqv_lasts _) (kn (t := 27) (j := 4) (by kernel_rfl)) (kn (t := 28) (j := 5) (by kernel_rfl)) (fun v u w' hg hv hu => ?_) ?_
            · obtain rfl : v = _ := hv
              obtain rfl : u = _ := hu
              refine (put_any a t w' haR.out hrt.out).mono ?_
              rintro e w2 ⟨rfl, hg2⟩
              exact ⟨_, rfl, by rw [htwo.out]; rfl, hg2⟩
            refine GW.mv rfl trivial (.inl rfl) (kn (t := 29) (j := 6) (by kernel_rfl)) (eqv_lasts _) ?_
            refine GW.p1 (tokV ⟨0, 0, []⟩) rfl trivial (kn (t := 22) (j := 7) (by kernel_rfl)) (fun ρ w' hρ hg => by simp [execOp, hρ, go_sem]) ?_
            refine GW.p1 (.bool false) rfl trivial (kn (t := 22) (j := 7) (by kernel_rfl)) (fun ρ w' hρ hg => by simp [execOp, hρ, go_sem]) ?_
            refine GW.alloc #[.int .i64 0, .int .i64 0, .string ⟨#[]⟩] rfl trivial rfl (fun w => by kernel_rfl) ?_
            refine GW.tailLate 9 22 31 (.tuple #[tokV ⟨0, 0, []⟩, .bool false]) (.bool false) _ _ 7 10 8 7 30 _ _ _ _ (m := 11) (by omega) (by kernel_rfl) (by kernel_rfl) rfl rfl rfl (fun ρ w hρ => by simp [execOp, hρ, go_sem]) (fun _ => rfl) rfl rfl (by omega) (by omega) (fun v w h => h) rfl rfl rfl rfl rfl rfl (by omega) (by omega) rfl rfl (by omega) (by omega) (fun ρ w hg h1 h2 => stored7 ρ w _ ⟨0, 0, []⟩ h1 h2 rfl) (fun w' hg => ?_)
            intro v0 _ v1 _ v2 _ v3 _ v4 _ v5 _ v6 _ v7 _ v8 h8 v9 h9 v10 h10
            obtain rfl : v8 = (tokV ⟨0, 0, []⟩) := h8
            obtain rfl : v9 = (.bool false) := h9
            simp only [GFin, List.take_succ_cons, List.take_zero, List.drop_succ_cons, List.drop_zero, Act.put, List.setIfInBounds_toArray, List.set_cons_succ, List.set_cons_zero]
            obtain ⟨g7, rfl, hg7, n7⟩ := h10
            have hszw := Below.size hg
            have hgh := Lib.hid hg
            replace n7 := Lib.hid n7
            clear y0 y1 y2 hgf hg x0 x1 x2
            have hpn := Lib.hid (show push (o ++ [a]) t = o ++ [a] ++ [t] by rw [hpu.out, htwo.out])
            go_wp2_with (first
              | (refine wpList_store_blk rfl 35 _ _ rfl g7 #[.int .i64 0, .int .i64 0, .string ⟨#[]⟩] rfl rfl 35 #[.int .i64 0, .int .i64 0, .string ⟨#[]⟩] n7.out (tokInfo _ _ _) rfl (by simp [Value.oneCell']) ?_; intro w4 n8 kn hs4; have Gw4 : Gr w1 w4 := Below.trans hgh.out (Below.mono (Kb.below kn (Nat.le_of_lt n7.out.lt)) hg7); have o4 := o1'.out.below Gw4; have b4 := blk_more b1.out Gw4; have G4 := Lib.hid (Gr.trans g1.out Gw4); have x0 := b4.cell 0; have x1 := b4.cell 1; have x2 := b4.cell 2; have oL := Lib.hid (o4.alloc (.cells #[.int .i64 t.f, .int .i64 t.m, .string ⟨t.d.toArray⟩] 35)); have nL := Lib.hid (TR.new1 w4 35 t); have gL := Lib.hid (Gr.alloc G4.out (.cells #[.int .i64 t.f, .int .i64 t.m, .string ⟨t.d.toArray⟩] 35)); have hWw := Below.size G4.out; clear o4 b4 G4 Gw4 kn hs4 n8 n7 b1 g1 o1')
              | (refine wpList_append_rows (v := .slice (some ⟨g, 0, none⟩) (o.length + 1) c0) rfl (.tmp 38) (.tmp 40) 26 rfl Try.underlying26 tokRow rfl (by exact oL.out) (w4.heap.size + 1) _ 1 1 (tcs [t]) rfl (by exact nL.out) (tcs_one_cell _) (by unfold maxLen; simp <;> omega) (by simp <;> omega) (by simp <;> omega) (tcs ((o ++ [a]) ++ [t])) (tcs_append _ _) ((o ++ [a]) ++ [t]).length (by simp) ?_; intro A9 c9 w9 o9 b9)
              | (refine step_append_rows (v := .slice (some ⟨g, 0, none⟩) (o.length + 1) c0) rfl (.tmp 38) (.tmp 40) 26 rfl Try.underlying26 tokRow rfl (by exact oL.out) (w4.heap.size + 1) _ 1 1 (tcs [t]) rfl (by exact nL.out) (tcs_one_cell _) (by unfold maxLen; simp <;> omega) (by simp <;> omega) (by simp <;> omega) (tcs ((o ++ [a]) ++ [t])) (tcs_append _ _) ((o ++ [a]) ++ [t]).length (by simp) ?_; intro A9 c9 w9 o9 b9))
            rw [hpn.out] at hs
            have g9 : Gr w w9 := Below.trans gL.out b9
            clear oL nL gL b9
            go_wp2
            go_roundw
            case rel => exact ⟨k + 1, by omega, by go_num, by rw [hs.out]; exact ⟨A9, c9, by first | rfl | simp, by first | exact o9 | (unfold OT; simpa using o9)⟩, g9⟩
            case measure => simp [intOf]; omega
    · obtain rfl : k = l.length := by omega
      rw [List.take_length] at ho
      replace ho := Lib.hid ho
      rw [List.take_length]
      go_wp2
      go_ret
      exact ⟨⟨_, _, rfl, ho.out⟩, ⟨_, rfl⟩, hg⟩
end Tk
end Go.Proofs.Ytgnogoghfendpaa

