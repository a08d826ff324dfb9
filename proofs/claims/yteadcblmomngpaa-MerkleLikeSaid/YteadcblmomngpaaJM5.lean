/- Texts that the law rests on, merged. No condition. -/
import Derived.Test.YteadcblmomngpaaJM1
import Derived.Test.YteadcblmomngpaaJM2
import Derived.Test.YteadcblmomngpaaJM3
import Derived.Test.YteadcblmomngpaaJM4
set_option linter.unusedVariables false
set_option linter.unusedSimpArgs false
namespace Go.Proofs.Yteadcblmomngpaa
open Go Go.RowKit Go.Shelf W Pth
namespace Tr
theorem refLike_none1 {a b : List Nd} {p q : List UInt8} (h : atP a p = none) : refLikeP a p b q = false := by unfold refLikeP; rw [h]
theorem refLike_none2 {a b : List Nd} {p q : List UInt8} (h : atP b q = none) : refLikeP a p b q = false := by
  unfold refLikeP
  rw [h]
  cases atP a p <;> rfl
theorem refLike_some {a b : List Nd} {p q : List UInt8} {x y : Nd} (h : atP a p = some x) (h2 : atP b q = some y) : refLikeP a p b q = (x.kind == y.kind && (x.data == y.data && decide (movedP a p = movedP b q))) := by unfold refLikeP; rw [h, h2]
theorem atP_at {t : List Nd} {p : List UInt8} (hp : p ≠ []) : atP t p = find t p := if_neg hp
set_option maxRecDepth 100000 in
set_option maxHeartbeats 16000000 in
theorem refLike_any (a b : List Nd) (A B : Option Addr) (ca cb : Nat) (fa : Fit a) (fb : Fit b) (p q : List UInt8) (w : World) (hpl : p.length ≤ 90000) (hql : q.length ≤ 90000) (ha : NR w w.heap.size A a) (hb : NR w w.heap.size B b) :
    Calls Try.prog 10 #[.slice A a.length ca, str p, .slice B b.length cb, str q] w fun e w' => e = .returned (.bool (refLikeP a p b q)) ∧ Gr w w' := by
  have ha1 := fa.1
  have hb1 := fb.1
  obtain ⟨rr, hrr⟩ : ∃ rr, refLikeP a p b q = rr := ⟨_, rfl⟩
  rw [hrr]
  have hap := Lib.hid (refAt_any A ca a.length a p w _ rfl ha (by omega))
  have hbq := Lib.hid (refAt_any B cb b.length b q w _ rfl hb (by omega))
  have hma := Lib.hid (fun w h => refMoved_any A ca a p w h fa hpl)
  have hmb := Lib.hid (fun w h => refMoved_any B cb b q w h fb hql)
  have hla := movedP_len a p
  have hlb := movedP_len b q
  obtain ⟨MA, hMA⟩ : ∃ MA, movedP a p = MA := ⟨_, rfl⟩
  obtain ⟨MB, hMB⟩ : ∃ MB, movedP b q = MB := ⟨_, rfl⟩
  have hls : ∀ x y, atP a p = some x → atP b q = some y → rr = (x.kind == y.kind && (x.data == y.data && decide (MA = MB))) := fun x y h1 h2 => by rw [← hrr, refLike_some h1 h2, hMA, hMB]
  have hn1 : atP a p = none → rr = false := fun h => by rw [← hrr, refLike_none1 h]
  have hn2 : atP b q = none → rr = false := fun h => by rw [← hrr, refLike_none2 h]
  rw [hMA] at hma hla
  rw [hMB] at hmb hlb
  have hsa := Lib.hid (fun A' B' c' d' w h1 h2 => refSame_any A' B' c' d' MA MB w h1 h2 (by omega) (by omega))
  have b1 := Blk.new w 34 (ndA noNd)
  have g1 := (Gr.refl w).alloc (.cells (ndA noNd) 34)
  have b2 := Blk.new (w.alloc (.cells (ndA noNd) 34)) 34 (ndA noNd)
  rw [World.size_alloc] at b2
  have g2 := Lib.hid (g1.alloc (.cells (ndA noNd) 34))
  have b1 := Lib.hid (b1.alloc (.cells (ndA noNd) 34))
  replace b2 := Lib.hid b2
  replace hls := Lib.hid hls
  replace hn1 := Lib.hid hn1
  replace hn2 := Lib.hid hn2
  replace ha := Lib.hid ha
  replace hb := Lib.hid hb
  clear hrr hMA hMB g1
  have G0 := Lib.hid (Gr.refl w)
  go_enter Try.func10, Try.ntmps10
  go_wp2_with fail
  go_at_call 12
  refine hap.out.mono ?_
  rintro e w0 ⟨rfl, rfl⟩
  go_wp2_with fail
  go_at_call 12
  refine hbq.out.mono ?_
  rintro e w0 ⟨rfl, rfl⟩
  clear hap hbq
  by_cases hp0 : p = []
  · subst hp0
    obtain ⟨x, hrx⟩ : ∃ x, root = x := ⟨_, rfl⟩
    have hX : atP a [] = some x := by rw [← hrx]; rfl
    by_cases hq0 : q = []
    · subst hq0
      obtain ⟨y, hry⟩ : ∃ y, root = y := ⟨_, rfl⟩
      have hv := hls.out x y hX (by rw [← hry]; rfl)
      clear hls hn1 hn2 hX
      have hrv : rr = decide (MA = MB) := by rw [hv, ← hrx, ← hry]; simp
      have hxy : x = y := hrx.symm.trans hry
      subst hxy
      replace hrv := Lib.hid hrv
      clear hv
      obtain ⟨xp, xk, xm, xt, xd⟩ := x
      have hkk : (xk == xk) = true := by simp
      have hdd : (xd == xd) = true := by simp
      go_wp2_with (first
        | ((with_reducible refine wpList_isStore 34 (.tmp 11) (.tmp 33) rfl ?_); refine wpList_store_blk rfl 34 (.tmp 11) (.tmp 33) rfl w.heap.size (ndA root) rfl rfl 34 (ndA noNd) b1.out (nodeInfo _ _ _ _ _) rfl (by simp [Value.oneCell']) ?_; intro w3 n k z; have N1 := Lib.hid n; have N2 := Lib.hid (k.blk b2.out (by omega)); have GG := Lib.hid (Below.trans g2.out (Kb.below k (by rw [World.size_alloc, World.size_alloc]; omega))); have hz3 : w3.heap.size = w.heap.size + 2 := (by rw [z, World.size_alloc, World.size_alloc]); clear n k z)
        | ((with_reducible refine wpList_isStore 34 (.tmp 12) (.tmp 34) rfl ?_); refine wpList_store_blk rfl 34 (.tmp 12) (.tmp 34) rfl (w.heap.size + 1) (ndA root) rfl rfl 34 (ndA noNd) N2.out (nodeInfo _ _ _ _ _) rfl (by simp [Value.oneCell']) ?_; intro w4 n k z; have N1 := Lib.hid (k.blk N1.out (by omega)); have N2 := Lib.hid n; have GG := Lib.hid (Below.trans GG.out (Below.mono (Kb.below k (by omega)) (by omega))); have hz4 : w4.heap.size = w.heap.size + 2 := z.trans hz3; have GZ := GG; have N1 : Hid (Blk _ w.heap.size 34 (ndA ⟨xp, xk, xm, xt, xd⟩)) := Lib.hid (by rw [← hrx]; exact N1.out); have N2 : Hid (Blk _ (w.heap.size + 1) 34 (ndA ⟨xp, xk, xm, xt, xd⟩)) := Lib.hid (by rw [← hry]; exact N2.out); have x1 := N1.out.cell 1; have x4 := N1.out.cell 4; have y1 := N2.out.cell 1; have y4 := N2.out.cell 4; clear n k z)
        | (go_at_call 26; fail))
      go_at_call 26
      have ra := ha.out.on GG.out
      have rb := hb.out.on GG.out
      refine (hma.out _ ra).mono ?_
      rintro e v1 ⟨A5, c5, rfl, o5, g5⟩
      have GG := Lib.hid (Gr.trans GG.out g5)
      have rb := Lib.hid (rb.on g5)
      have t5 := Lib.hid (ON.nr o5)
      clear hma g5 o5 ra x1 x4 y1 y4
      go_wp2_with fail
      go_at_call 26
      refine (hmb.out _ rb.out).mono ?_
      rintro e v2 ⟨A6, c6, rfl, o6, g5⟩
      have GG := Lib.hid (Gr.trans GG.out g5)
      have t5 := Lib.hid (NR.on t5.out g5)
      have t6 := Lib.hid (ON.nr o6)
      clear hmb g5 o6 rb
      go_wp2_with fail
      go_at_call 25
      refine (hsa.out A5 A6 c5 c6 _ t5.out t6.out).mono ?_
      rintro e v3 ⟨rfl, g5⟩
      have GG := Lib.hid (Gr.trans GG.out g5)
      have hre := hrv.out
      clear hsa g5 t5 t6
      generalize decide (MA = MB) = dd at *
      subst hre
      clear hrv
      go_wp2
      go_ret
      exact ⟨rfl, GG.out⟩
    · have hqb : q.isEmpty = false := by simpa using hq0
      cases eb : at_ b q with
      | none =>
        have hk : atI b q = -1 := by unfold atI; rw [eb]
        rw [hk]
        obtain rfl := hn2.out (by rw [atP_at hq0, (at_none eb).2])
        clear hls hn1 hn2 hX hk eb hq0
        go_wp2
        go_ret
        exact ⟨rfl, G0.out⟩
      | some j =>
        have hk : atI b q = (j : Int) := by unfold atI; rw [eb]
        rw [hk]
        obtain ⟨hjl, hjp, hjf⟩ := at_some eb
        have j0 : ¬ (j : Int) < 0 := by omega
        have j1 : (0 : Int) ≤ (j : Int) := by omega
        have j2 : (j : Int) < (b.length : Int) := by omega
        obtain ⟨ae, hB, hlb2, f0, f1, f2, f3, f4⟩ := hb.out.at_ hjl
        subst hB
        have lae : (ae.add (j * 5)).block < w.heap.size := by rw [block_of_add]; exact hlb2
        obtain ⟨y, hy⟩ : ∃ y, b[j] = y := ⟨_, rfl⟩
        rw [hy] at f0 f1 f2 f3 f4
        have hv := hls.out x y hX (by rw [atP_at hq0, hjf, hy])
        clear hls hn1 hn2 hX hk eb hq0 hjp hjf hy hlb2
        obtain ⟨xp, xk, xm, xt, xd⟩ := x
        obtain ⟨yp, yk, ym, yt, yd⟩ := y
        simp only at hv
        by_cases hk : xk = yk
        · subst hk
          by_cases hd : xd = yd
          · subst hd
            have hrv : rr = decide (MA = MB) := by rw [hv]; simp
            replace hrv := Lib.hid hrv
            have hkk : (xk == xk) = true := by simp
            have hdd : (xd == xd) = true := by simp
            clear hv
            go_wp2_with (first
              | ((with_reducible refine wpList_isStore 34 (.tmp 11) (.tmp 33) rfl ?_); refine wpList_store_blk rfl 34 (.tmp 11) (.tmp 33) rfl w.heap.size (ndA root) rfl rfl 34 (ndA noNd) b1.out (nodeInfo _ _ _ _ _) rfl (by simp [Value.oneCell']) ?_; intro w3 n k z; have N1 := Lib.hid n; have N2 := Lib.hid (k.blk b2.out (by omega)); have GG := Lib.hid (Below.trans g2.out (Kb.below k (by rw [World.size_alloc, World.size_alloc]; omega))); have hz3 : w3.heap.size = w.heap.size + 2 := (by rw [z, World.size_alloc, World.size_alloc]); clear n k z)
              | ((with_reducible refine wpList_isStore 34 (.tmp 12) (.tmp 34) rfl ?_); refine wpList_store_blk rfl 34 (.tmp 12) (.tmp 34) rfl (w.heap.size + 1) (ndA root) rfl rfl 34 (ndA noNd) N2.out (nodeInfo _ _ _ _ _) rfl (by simp [Value.oneCell']) ?_; intro w4 n k z; have N1 := Lib.hid (k.blk N1.out (by omega)); have N2 := Lib.hid n; have GG := Lib.hid (Below.trans GG.out (Below.mono (Kb.below k (by omega)) (by omega))); have hz4 : w4.heap.size = w.heap.size + 2 := z.trans hz3; have GZ := GG; have N1 : Hid (Blk _ w.heap.size 34 (ndA ⟨xp, xk, xm, xt, xd⟩)) := Lib.hid (by rw [← hrx]; exact N1.out); have f0 := (GZ.out.cell (p := ae.add (j * 5)) lae).trans f0; have f1 := (GZ.out.cell (p := ⟨(ae.add (j * 5)).block, (ae.add (j * 5)).off + 1, none⟩) lae).trans f1; have f2 := (GZ.out.cell (p := ⟨(ae.add (j * 5)).block, (ae.add (j * 5)).off + 2, none⟩) lae).trans f2; have f3 := (GZ.out.cell (p := ⟨(ae.add (j * 5)).block, (ae.add (j * 5)).off + 3, none⟩) lae).trans f3; have f4 := (GZ.out.cell (p := ⟨(ae.add (j * 5)).block, (ae.add (j * 5)).off + 4, none⟩) lae).trans f4; clear n k z)
              | ((with_reducible refine wpList_isStore 34 (.tmp 12) (.tmp 46) rfl ?_); refine wpList_store_blk rfl 34 (.tmp 12) (.tmp 46) rfl (w.heap.size + 1) (ndA ⟨yp, xk, ym, yt, xd⟩) rfl rfl 34 (ndA root) N2.out (nodeInfo _ _ _ _ _) rfl (by simp [Value.oneCell']) ?_; intro w6 n k z; have gq : Below w.heap.size w4 w6 := Below.mono (Kb.below k (by omega)) (by omega); have N1 := Lib.hid (k.blk N1.out (by omega)); have N2 := Lib.hid n; have GG := Lib.hid (Below.trans GG.out gq); clear gq; have x1 := N1.out.cell 1; have x4 := N1.out.cell 4; have y1 := N2.out.cell 1; have y4 := N2.out.cell 4; clear n k z)
              | (go_at_call 26; fail))
            go_at_call 26
            have ra := ha.out.on GG.out
            have rb := hb.out.on GG.out
            refine (hma.out _ ra).mono ?_
            rintro e v1 ⟨A5, c5, rfl, o5, g5⟩
            have GG := Lib.hid (Gr.trans GG.out g5)
            have rb := Lib.hid (rb.on g5)
            have t5 := Lib.hid (ON.nr o5)
            clear hma g5 o5 ra x1 x4 y1 y4
            go_wp2_with fail
            go_at_call 26
            refine (hmb.out _ rb.out).mono ?_
            rintro e v2 ⟨A6, c6, rfl, o6, g5⟩
            have GG := Lib.hid (Gr.trans GG.out g5)
            have t5 := Lib.hid (NR.on t5.out g5)
            have t6 := Lib.hid (ON.nr o6)
            clear hmb g5 o6 rb
            go_wp2_with fail
            go_at_call 25
            refine (hsa.out A5 A6 c5 c6 _ t5.out t6.out).mono ?_
            rintro e v3 ⟨rfl, g5⟩
            have GG := Lib.hid (Gr.trans GG.out g5)
            have hre := hrv.out
            clear hsa g5 t5 t6
            generalize decide (MA = MB) = dd at *
            subst hre
            clear hrv
            go_wp2
            go_ret
            exact ⟨rfl, GG.out⟩
          · have hdd : (xd == yd) = false := by simpa using hd
            have hkk : (xk == xk) = true := by simp
            obtain rfl : rr = false := by rw [hv, hdd]; simp
            clear hv hd
            go_wp2_with (first
              | ((with_reducible refine wpList_isStore 34 (.tmp 11) (.tmp 33) rfl ?_); refine wpList_store_blk rfl 34 (.tmp 11) (.tmp 33) rfl w.heap.size (ndA root) rfl rfl 34 (ndA noNd) b1.out (nodeInfo _ _ _ _ _) rfl (by simp [Value.oneCell']) ?_; intro w3 n k z; have N1 := Lib.hid n; have N2 := Lib.hid (k.blk b2.out (by omega)); have GG := Lib.hid (Below.trans g2.out (Kb.below k (by rw [World.size_alloc, World.size_alloc]; omega))); have hz3 : w3.heap.size = w.heap.size + 2 := (by rw [z, World.size_alloc, World.size_alloc]); clear n k z)
              | ((with_reducible refine wpList_isStore 34 (.tmp 12) (.tmp 34) rfl ?_); refine wpList_store_blk rfl 34 (.tmp 12) (.tmp 34) rfl (w.heap.size + 1) (ndA root) rfl rfl 34 (ndA noNd) N2.out (nodeInfo _ _ _ _ _) rfl (by simp [Value.oneCell']) ?_; intro w4 n k z; have N1 := Lib.hid (k.blk N1.out (by omega)); have N2 := Lib.hid n; have GG := Lib.hid (Below.trans GG.out (Below.mono (Kb.below k (by omega)) (by omega))); have hz4 : w4.heap.size = w.heap.size + 2 := z.trans hz3; have GZ := GG; have N1 : Hid (Blk _ w.heap.size 34 (ndA ⟨xp, xk, xm, xt, xd⟩)) := Lib.hid (by rw [← hrx]; exact N1.out); have f0 := (GZ.out.cell (p := ae.add (j * 5)) lae).trans f0; have f1 := (GZ.out.cell (p := ⟨(ae.add (j * 5)).block, (ae.add (j * 5)).off + 1, none⟩) lae).trans f1; have f2 := (GZ.out.cell (p := ⟨(ae.add (j * 5)).block, (ae.add (j * 5)).off + 2, none⟩) lae).trans f2; have f3 := (GZ.out.cell (p := ⟨(ae.add (j * 5)).block, (ae.add (j * 5)).off + 3, none⟩) lae).trans f3; have f4 := (GZ.out.cell (p := ⟨(ae.add (j * 5)).block, (ae.add (j * 5)).off + 4, none⟩) lae).trans f4; clear n k z)
              | ((with_reducible refine wpList_isStore 34 (.tmp 12) (.tmp 46) rfl ?_); refine wpList_store_blk rfl 34 (.tmp 12) (.tmp 46) rfl (w.heap.size + 1) (ndA ⟨yp, xk, ym, yt, yd⟩) rfl rfl 34 (ndA root) N2.out (nodeInfo _ _ _ _ _) rfl (by simp [Value.oneCell']) ?_; intro w6 n k z; have gq : Below w.heap.size w4 w6 := Below.mono (Kb.below k (by omega)) (by omega); have N1 := Lib.hid (k.blk N1.out (by omega)); have N2 := Lib.hid n; have GG := Lib.hid (Below.trans GG.out gq); clear gq; have x1 := N1.out.cell 1; have x4 := N1.out.cell 4; have y1 := N2.out.cell 1; have y4 := N2.out.cell 4; clear n k z))
            go_ret
            exact ⟨rfl, GG.out⟩
        · have hkk : (xk == yk) = false := by simpa using hk
          obtain rfl : rr = false := by rw [hv, hkk]; rfl
          clear hv hk
          go_wp2_with (first
            | ((with_reducible refine wpList_isStore 34 (.tmp 11) (.tmp 33) rfl ?_); refine wpList_store_blk rfl 34 (.tmp 11) (.tmp 33) rfl w.heap.size (ndA root) rfl rfl 34 (ndA noNd) b1.out (nodeInfo _ _ _ _ _) rfl (by simp [Value.oneCell']) ?_; intro w3 n k z; have N1 := Lib.hid n; have N2 := Lib.hid (k.blk b2.out (by omega)); have GG := Lib.hid (Below.trans g2.out (Kb.below k (by rw [World.size_alloc, World.size_alloc]; omega))); have hz3 : w3.heap.size = w.heap.size + 2 := (by rw [z, World.size_alloc, World.size_alloc]); clear n k z)
            | ((with_reducible refine wpList_isStore 34 (.tmp 12) (.tmp 34) rfl ?_); refine wpList_store_blk rfl 34 (.tmp 12) (.tmp 34) rfl (w.heap.size + 1) (ndA root) rfl rfl 34 (ndA noNd) N2.out (nodeInfo _ _ _ _ _) rfl (by simp [Value.oneCell']) ?_; intro w4 n k z; have N1 := Lib.hid (k.blk N1.out (by omega)); have N2 := Lib.hid n; have GG := Lib.hid (Below.trans GG.out (Below.mono (Kb.below k (by omega)) (by omega))); have hz4 : w4.heap.size = w.heap.size + 2 := z.trans hz3; have GZ := GG; have N1 : Hid (Blk _ w.heap.size 34 (ndA ⟨xp, xk, xm, xt, xd⟩)) := Lib.hid (by rw [← hrx]; exact N1.out); have f0 := (GZ.out.cell (p := ae.add (j * 5)) lae).trans f0; have f1 := (GZ.out.cell (p := ⟨(ae.add (j * 5)).block, (ae.add (j * 5)).off + 1, none⟩) lae).trans f1; have f2 := (GZ.out.cell (p := ⟨(ae.add (j * 5)).block, (ae.add (j * 5)).off + 2, none⟩) lae).trans f2; have f3 := (GZ.out.cell (p := ⟨(ae.add (j * 5)).block, (ae.add (j * 5)).off + 3, none⟩) lae).trans f3; have f4 := (GZ.out.cell (p := ⟨(ae.add (j * 5)).block, (ae.add (j * 5)).off + 4, none⟩) lae).trans f4; clear n k z)
            | ((with_reducible refine wpList_isStore 34 (.tmp 12) (.tmp 46) rfl ?_); refine wpList_store_blk rfl 34 (.tmp 12) (.tmp 46) rfl (w.heap.size + 1) (ndA ⟨yp, yk, ym, yt, yd⟩) rfl rfl 34 (ndA root) N2.out (nodeInfo _ _ _ _ _) rfl (by simp [Value.oneCell']) ?_; intro w6 n k z; have gq : Below w.heap.size w4 w6 := Below.mono (Kb.below k (by omega)) (by omega); have N1 := Lib.hid (k.blk N1.out (by omega)); have N2 := Lib.hid n; have GG := Lib.hid (Below.trans GG.out gq); clear gq; have x1 := N1.out.cell 1; have x4 := N1.out.cell 4; have y1 := N2.out.cell 1; have y4 := N2.out.cell 4; clear n k z))
          go_ret
          exact ⟨rfl, GG.out⟩
  · have hpb : p.isEmpty = false := by simpa using hp0
    cases ea : at_ a p with
    | none =>
      have hk : atI a p = -1 := by unfold atI; rw [ea]
      rw [hk]
      obtain rfl := hn1.out (by rw [atP_at hp0, (at_none ea).2])
      clear hls hn1 hn2 hk ea hp0
      go_wp2
      go_ret
      exact ⟨rfl, G0.out⟩
    | some i =>
      have hk : atI a p = (i : Int) := by unfold atI; rw [ea]
      rw [hk]
      obtain ⟨hil, hip, hif⟩ := at_some ea
      have i0 : ¬ (i : Int) < 0 := by omega
      have i1 : (0 : Int) ≤ (i : Int) := by omega
      have i2 : (i : Int) < (a.length : Int) := by omega
      obtain ⟨ad, hA, hla2, e0, e1, e2, e3, e4⟩ := ha.out.at_ hil
      subst hA
      have lad : (ad.add (i * 5)).block < w.heap.size := by rw [block_of_add]; exact hla2
      obtain ⟨x, hx⟩ : ∃ x, a[i] = x := ⟨_, rfl⟩
      rw [hx] at e0 e1 e2 e3 e4
      have hX : atP a p = some x := by rw [atP_at hp0, hif, hx]
      clear hk ea hp0 hip hif hx hla2
      by_cases hq0 : q = []
      · subst hq0
        obtain ⟨y, hry⟩ : ∃ y, root = y := ⟨_, rfl⟩
        have hv := hls.out x y hX (by rw [← hry]; rfl)
        clear hls hn1 hn2 hX
        obtain ⟨xp, xk, xm, xt, xd⟩ := x
        obtain ⟨yp, yk, ym, yt, yd⟩ := y
        simp only at hv
        by_cases hk : xk = yk
        · subst hk
          by_cases hd : xd = yd
          · subst hd
            have hrv : rr = decide (MA = MB) := by rw [hv]; simp
            replace hrv := Lib.hid hrv
            have hkk : (xk == xk) = true := by simp
            have hdd : (xd == xd) = true := by simp
            clear hv
            go_wp2_with (first
              | ((with_reducible refine wpList_isStore 34 (.tmp 11) (.tmp 33) rfl ?_); refine wpList_store_blk rfl 34 (.tmp 11) (.tmp 33) rfl w.heap.size (ndA root) rfl rfl 34 (ndA noNd) b1.out (nodeInfo _ _ _ _ _) rfl (by simp [Value.oneCell']) ?_; intro w3 n k z; have N1 := Lib.hid n; have N2 := Lib.hid (k.blk b2.out (by omega)); have GG := Lib.hid (Below.trans g2.out (Kb.below k (by rw [World.size_alloc, World.size_alloc]; omega))); have hz3 : w3.heap.size = w.heap.size + 2 := (by rw [z, World.size_alloc, World.size_alloc]); clear n k z)
              | ((with_reducible refine wpList_isStore 34 (.tmp 12) (.tmp 34) rfl ?_); refine wpList_store_blk rfl 34 (.tmp 12) (.tmp 34) rfl (w.heap.size + 1) (ndA root) rfl rfl 34 (ndA noNd) N2.out (nodeInfo _ _ _ _ _) rfl (by simp [Value.oneCell']) ?_; intro w4 n k z; have N1 := Lib.hid (k.blk N1.out (by omega)); have N2 := Lib.hid n; have GG := Lib.hid (Below.trans GG.out (Below.mono (Kb.below k (by omega)) (by omega))); have hz4 : w4.heap.size = w.heap.size + 2 := z.trans hz3; have GZ := GG; have N2 : Hid (Blk _ (w.heap.size + 1) 34 (ndA ⟨yp, xk, ym, yt, xd⟩)) := Lib.hid (by rw [← hry]; exact N2.out); have e0 := (GZ.out.cell (p := ad.add (i * 5)) lad).trans e0; have e1 := (GZ.out.cell (p := ⟨(ad.add (i * 5)).block, (ad.add (i * 5)).off + 1, none⟩) lad).trans e1; have e2 := (GZ.out.cell (p := ⟨(ad.add (i * 5)).block, (ad.add (i * 5)).off + 2, none⟩) lad).trans e2; have e3 := (GZ.out.cell (p := ⟨(ad.add (i * 5)).block, (ad.add (i * 5)).off + 3, none⟩) lad).trans e3; have e4 := (GZ.out.cell (p := ⟨(ad.add (i * 5)).block, (ad.add (i * 5)).off + 4, none⟩) lad).trans e4; clear n k z)
              | ((with_reducible refine wpList_isStore 34 (.tmp 11) (.tmp 40) rfl ?_); refine wpList_store_blk rfl 34 (.tmp 11) (.tmp 40) rfl w.heap.size (ndA ⟨xp, xk, xm, xt, xd⟩) rfl rfl 34 (ndA root) N1.out (nodeInfo _ _ _ _ _) rfl (by simp [Value.oneCell']) ?_; intro w5 n k z; have gq : Below w.heap.size w4 w5 := Below.mono (Kb.below k (by omega)) (by omega); have N2 := Lib.hid (k.blk N2.out (by omega)); have N1 := Lib.hid n; have GG := Lib.hid (Below.trans GG.out gq); have hz5 : w5.heap.size = w.heap.size + 2 := z.trans hz4; clear gq; have x1 := N1.out.cell 1; have x4 := N1.out.cell 4; have y1 := N2.out.cell 1; have y4 := N2.out.cell 4; clear n k z)
              | (go_at_call 26; fail))
            go_at_call 26
            have ra := ha.out.on GG.out
            have rb := hb.out.on GG.out
            refine (hma.out _ ra).mono ?_
            rintro e v1 ⟨A5, c5, rfl, o5, g5⟩
            have GG := Lib.hid (Gr.trans GG.out g5)
            have rb := Lib.hid (rb.on g5)
            have t5 := Lib.hid (ON.nr o5)
            clear hma g5 o5 ra x1 x4 y1 y4
            go_wp2_with fail
            go_at_call 26
            refine (hmb.out _ rb.out).mono ?_
            rintro e v2 ⟨A6, c6, rfl, o6, g5⟩
            have GG := Lib.hid (Gr.trans GG.out g5)
            have t5 := Lib.hid (NR.on t5.out g5)
            have t6 := Lib.hid (ON.nr o6)
            clear hmb g5 o6 rb
            go_wp2_with fail
            go_at_call 25
            refine (hsa.out A5 A6 c5 c6 _ t5.out t6.out).mono ?_
            rintro e v3 ⟨rfl, g5⟩
            have GG := Lib.hid (Gr.trans GG.out g5)
            have hre := hrv.out
            clear hsa g5 t5 t6
            generalize decide (MA = MB) = dd at *
            subst hre
            clear hrv
            go_wp2
            go_ret
            exact ⟨rfl, GG.out⟩
          · have hdd : (xd == yd) = false := by simpa using hd
            have hkk : (xk == xk) = true := by simp
            obtain rfl : rr = false := by rw [hv, hdd]; simp
            clear hv hd
            go_wp2_with (first
              | ((with_reducible refine wpList_isStore 34 (.tmp 11) (.tmp 33) rfl ?_); refine wpList_store_blk rfl 34 (.tmp 11) (.tmp 33) rfl w.heap.size (ndA root) rfl rfl 34 (ndA noNd) b1.out (nodeInfo _ _ _ _ _) rfl (by simp [Value.oneCell']) ?_; intro w3 n k z; have N1 := Lib.hid n; have N2 := Lib.hid (k.blk b2.out (by omega)); have GG := Lib.hid (Below.trans g2.out (Kb.below k (by rw [World.size_alloc, World.size_alloc]; omega))); have hz3 : w3.heap.size = w.heap.size + 2 := (by rw [z, World.size_alloc, World.size_alloc]); clear n k z)
              | ((with_reducible refine wpList_isStore 34 (.tmp 12) (.tmp 34) rfl ?_); refine wpList_store_blk rfl 34 (.tmp 12) (.tmp 34) rfl (w.heap.size + 1) (ndA root) rfl rfl 34 (ndA noNd) N2.out (nodeInfo _ _ _ _ _) rfl (by simp [Value.oneCell']) ?_; intro w4 n k z; have N1 := Lib.hid (k.blk N1.out (by omega)); have N2 := Lib.hid n; have GG := Lib.hid (Below.trans GG.out (Below.mono (Kb.below k (by omega)) (by omega))); have hz4 : w4.heap.size = w.heap.size + 2 := z.trans hz3; have GZ := GG; have N2 : Hid (Blk _ (w.heap.size + 1) 34 (ndA ⟨yp, xk, ym, yt, yd⟩)) := Lib.hid (by rw [← hry]; exact N2.out); have e0 := (GZ.out.cell (p := ad.add (i * 5)) lad).trans e0; have e1 := (GZ.out.cell (p := ⟨(ad.add (i * 5)).block, (ad.add (i * 5)).off + 1, none⟩) lad).trans e1; have e2 := (GZ.out.cell (p := ⟨(ad.add (i * 5)).block, (ad.add (i * 5)).off + 2, none⟩) lad).trans e2; have e3 := (GZ.out.cell (p := ⟨(ad.add (i * 5)).block, (ad.add (i * 5)).off + 3, none⟩) lad).trans e3; have e4 := (GZ.out.cell (p := ⟨(ad.add (i * 5)).block, (ad.add (i * 5)).off + 4, none⟩) lad).trans e4; clear n k z)
              | ((with_reducible refine wpList_isStore 34 (.tmp 11) (.tmp 40) rfl ?_); refine wpList_store_blk rfl 34 (.tmp 11) (.tmp 40) rfl w.heap.size (ndA ⟨xp, xk, xm, xt, xd⟩) rfl rfl 34 (ndA root) N1.out (nodeInfo _ _ _ _ _) rfl (by simp [Value.oneCell']) ?_; intro w5 n k z; have gq : Below w.heap.size w4 w5 := Below.mono (Kb.below k (by omega)) (by omega); have N2 := Lib.hid (k.blk N2.out (by omega)); have N1 := Lib.hid n; have GG := Lib.hid (Below.trans GG.out gq); have hz5 : w5.heap.size = w.heap.size + 2 := z.trans hz4; clear gq; have x1 := N1.out.cell 1; have x4 := N1.out.cell 4; have y1 := N2.out.cell 1; have y4 := N2.out.cell 4; clear n k z))
            go_ret
            exact ⟨rfl, GG.out⟩
        · have hkk : (xk == yk) = false := by simpa using hk
          obtain rfl : rr = false := by rw [hv, hkk]; rfl
          clear hv hk
          go_wp2_with (first
            | ((with_reducible refine wpList_isStore 34 (.tmp 11) (.tmp 33) rfl ?_); refine wpList_store_blk rfl 34 (.tmp 11) (.tmp 33) rfl w.heap.size (ndA root) rfl rfl 34 (ndA noNd) b1.out (nodeInfo _ _ _ _ _) rfl (by simp [Value.oneCell']) ?_; intro w3 n k z; have N1 := Lib.hid n; have N2 := Lib.hid (k.blk b2.out (by omega)); have GG := Lib.hid (Below.trans g2.out (Kb.below k (by rw [World.size_alloc, World.size_alloc]; omega))); have hz3 : w3.heap.size = w.heap.size + 2 := (by rw [z, World.size_alloc, World.size_alloc]); clear n k z)
            | ((with_reducible refine wpList_isStore 34 (.tmp 12) (.tmp 34) rfl ?_); refine wpList_store_blk rfl 34 (.tmp 12) (.tmp 34) rfl (w.heap.size + 1) (ndA root) rfl rfl 34 (ndA noNd) N2.out (nodeInfo _ _ _ _ _) rfl (by simp [Value.oneCell']) ?_; intro w4 n k z; have N1 := Lib.hid (k.blk N1.out (by omega)); have N2 := Lib.hid n; have GG := Lib.hid (Below.trans GG.out (Below.mono (Kb.below k (by omega)) (by omega))); have hz4 : w4.heap.size = w.heap.size + 2 := z.trans hz3; have GZ := GG; have N2 : Hid (Blk _ (w.heap.size + 1) 34 (ndA ⟨yp, yk, ym, yt, yd⟩)) := Lib.hid (by rw [← hry]; exact N2.out); have e0 := (GZ.out.cell (p := ad.add (i * 5)) lad).trans e0; have e1 := (GZ.out.cell (p := ⟨(ad.add (i * 5)).block, (ad.add (i * 5)).off + 1, none⟩) lad).trans e1; have e2 := (GZ.out.cell (p := ⟨(ad.add (i * 5)).block, (ad.add (i * 5)).off + 2, none⟩) lad).trans e2; have e3 := (GZ.out.cell (p := ⟨(ad.add (i * 5)).block, (ad.add (i * 5)).off + 3, none⟩) lad).trans e3; have e4 := (GZ.out.cell (p := ⟨(ad.add (i * 5)).block, (ad.add (i * 5)).off + 4, none⟩) lad).trans e4; clear n k z)
            | ((with_reducible refine wpList_isStore 34 (.tmp 11) (.tmp 40) rfl ?_); refine wpList_store_blk rfl 34 (.tmp 11) (.tmp 40) rfl w.heap.size (ndA ⟨xp, xk, xm, xt, xd⟩) rfl rfl 34 (ndA root) N1.out (nodeInfo _ _ _ _ _) rfl (by simp [Value.oneCell']) ?_; intro w5 n k z; have gq : Below w.heap.size w4 w5 := Below.mono (Kb.below k (by omega)) (by omega); have N2 := Lib.hid (k.blk N2.out (by omega)); have N1 := Lib.hid n; have GG := Lib.hid (Below.trans GG.out gq); have hz5 : w5.heap.size = w.heap.size + 2 := z.trans hz4; clear gq; have x1 := N1.out.cell 1; have x4 := N1.out.cell 4; have y1 := N2.out.cell 1; have y4 := N2.out.cell 4; clear n k z))
          go_ret
          exact ⟨rfl, GG.out⟩
      · have hqb : q.isEmpty = false := by simpa using hq0
        cases eb : at_ b q with
        | none =>
          have hk : atI b q = -1 := by unfold atI; rw [eb]
          rw [hk]
          obtain rfl := hn2.out (by rw [atP_at hq0, (at_none eb).2])
          clear hls hn1 hn2 hX hk eb hq0
          go_wp2
          go_ret
          exact ⟨rfl, G0.out⟩
        | some j =>
          have hk : atI b q = (j : Int) := by unfold atI; rw [eb]
          rw [hk]
          obtain ⟨hjl, hjp, hjf⟩ := at_some eb
          have j0 : ¬ (j : Int) < 0 := by omega
          have j1 : (0 : Int) ≤ (j : Int) := by omega
          have j2 : (j : Int) < (b.length : Int) := by omega
          obtain ⟨ae, hB, hlb2, f0, f1, f2, f3, f4⟩ := hb.out.at_ hjl
          subst hB
          have lae : (ae.add (j * 5)).block < w.heap.size := by rw [block_of_add]; exact hlb2
          obtain ⟨y, hy⟩ : ∃ y, b[j] = y := ⟨_, rfl⟩
          rw [hy] at f0 f1 f2 f3 f4
          have hv := hls.out x y hX (by rw [atP_at hq0, hjf, hy])
          clear hls hn1 hn2 hX hk eb hq0 hjp hjf hy hlb2
          obtain ⟨xp, xk, xm, xt, xd⟩ := x
          obtain ⟨yp, yk, ym, yt, yd⟩ := y
          simp only at hv
          by_cases hk : xk = yk
          · subst hk
            by_cases hd : xd = yd
            · subst hd
              have hrv : rr = decide (MA = MB) := by rw [hv]; simp
              replace hrv := Lib.hid hrv
              have hkk : (xk == xk) = true := by simp
              have hdd : (xd == xd) = true := by simp
              clear hv
              go_wp2_with (first
                | ((with_reducible refine wpList_isStore 34 (.tmp 11) (.tmp 33) rfl ?_); refine wpList_store_blk rfl 34 (.tmp 11) (.tmp 33) rfl w.heap.size (ndA root) rfl rfl 34 (ndA noNd) b1.out (nodeInfo _ _ _ _ _) rfl (by simp [Value.oneCell']) ?_; intro w3 n k z; have N1 := Lib.hid n; have N2 := Lib.hid (k.blk b2.out (by omega)); have GG := Lib.hid (Below.trans g2.out (Kb.below k (by rw [World.size_alloc, World.size_alloc]; omega))); have hz3 : w3.heap.size = w.heap.size + 2 := (by rw [z, World.size_alloc, World.size_alloc]); clear n k z)
                | ((with_reducible refine wpList_isStore 34 (.tmp 12) (.tmp 34) rfl ?_); refine wpList_store_blk rfl 34 (.tmp 12) (.tmp 34) rfl (w.heap.size + 1) (ndA root) rfl rfl 34 (ndA noNd) N2.out (nodeInfo _ _ _ _ _) rfl (by simp [Value.oneCell']) ?_; intro w4 n k z; have N1 := Lib.hid (k.blk N1.out (by omega)); have N2 := Lib.hid n; have GG := Lib.hid (Below.trans GG.out (Below.mono (Kb.below k (by omega)) (by omega))); have hz4 : w4.heap.size = w.heap.size + 2 := z.trans hz3; have GZ := GG; have e0 := (GZ.out.cell (p := ad.add (i * 5)) lad).trans e0; have e1 := (GZ.out.cell (p := ⟨(ad.add (i * 5)).block, (ad.add (i * 5)).off + 1, none⟩) lad).trans e1; have e2 := (GZ.out.cell (p := ⟨(ad.add (i * 5)).block, (ad.add (i * 5)).off + 2, none⟩) lad).trans e2; have e3 := (GZ.out.cell (p := ⟨(ad.add (i * 5)).block, (ad.add (i * 5)).off + 3, none⟩) lad).trans e3; have e4 := (GZ.out.cell (p := ⟨(ad.add (i * 5)).block, (ad.add (i * 5)).off + 4, none⟩) lad).trans e4; have f0 := (GZ.out.cell (p := ae.add (j * 5)) lae).trans f0; have f1 := (GZ.out.cell (p := ⟨(ae.add (j * 5)).block, (ae.add (j * 5)).off + 1, none⟩) lae).trans f1; have f2 := (GZ.out.cell (p := ⟨(ae.add (j * 5)).block, (ae.add (j * 5)).off + 2, none⟩) lae).trans f2; have f3 := (GZ.out.cell (p := ⟨(ae.add (j * 5)).block, (ae.add (j * 5)).off + 3, none⟩) lae).trans f3; have f4 := (GZ.out.cell (p := ⟨(ae.add (j * 5)).block, (ae.add (j * 5)).off + 4, none⟩) lae).trans f4; clear n k z)
                | ((with_reducible refine wpList_isStore 34 (.tmp 11) (.tmp 40) rfl ?_); refine wpList_store_blk rfl 34 (.tmp 11) (.tmp 40) rfl w.heap.size (ndA ⟨xp, xk, xm, xt, xd⟩) rfl rfl 34 (ndA root) N1.out (nodeInfo _ _ _ _ _) rfl (by simp [Value.oneCell']) ?_; intro w5 n k z; have gq : Below w.heap.size w4 w5 := Below.mono (Kb.below k (by omega)) (by omega); have N2 := Lib.hid (k.blk N2.out (by omega)); have N1 := Lib.hid n; have GG := Lib.hid (Below.trans GG.out gq); have hz5 : w5.heap.size = w.heap.size + 2 := z.trans hz4; have f0 := (gq.cell (p := ae.add (j * 5)) lae).trans f0; have f1 := (gq.cell (p := ⟨(ae.add (j * 5)).block, (ae.add (j * 5)).off + 1, none⟩) lae).trans f1; have f2 := (gq.cell (p := ⟨(ae.add (j * 5)).block, (ae.add (j * 5)).off + 2, none⟩) lae).trans f2; have f3 := (gq.cell (p := ⟨(ae.add (j * 5)).block, (ae.add (j * 5)).off + 3, none⟩) lae).trans f3; have f4 := (gq.cell (p := ⟨(ae.add (j * 5)).block, (ae.add (j * 5)).off + 4, none⟩) lae).trans f4; clear gq; clear n k z)
                | ((with_reducible refine wpList_isStore 34 (.tmp 12) (.tmp 46) rfl ?_); refine wpList_store_blk rfl 34 (.tmp 12) (.tmp 46) rfl (w.heap.size + 1) (ndA ⟨yp, xk, ym, yt, xd⟩) rfl rfl 34 (ndA root) N2.out (nodeInfo _ _ _ _ _) rfl (by simp [Value.oneCell']) ?_; intro w6 n k z; have gq : Below w.heap.size w5 w6 := Below.mono (Kb.below k (by omega)) (by omega); have N1 := Lib.hid (k.blk N1.out (by omega)); have N2 := Lib.hid n; have GG := Lib.hid (Below.trans GG.out gq); clear gq; have x1 := N1.out.cell 1; have x4 := N1.out.cell 4; have y1 := N2.out.cell 1; have y4 := N2.out.cell 4; clear n k z)
                | (go_at_call 26; fail))
              go_at_call 26
              have ra := ha.out.on GG.out
              have rb := hb.out.on GG.out
              refine (hma.out _ ra).mono ?_
              rintro e v1 ⟨A5, c5, rfl, o5, g5⟩
              have GG := Lib.hid (Gr.trans GG.out g5)
              have rb := Lib.hid (rb.on g5)
              have t5 := Lib.hid (ON.nr o5)
              clear hma g5 o5 ra x1 x4 y1 y4
              go_wp2_with fail
              go_at_call 26
              refine (hmb.out _ rb.out).mono ?_
              rintro e v2 ⟨A6, c6, rfl, o6, g5⟩
              have GG := Lib.hid (Gr.trans GG.out g5)
              have t5 := Lib.hid (NR.on t5.out g5)
              have t6 := Lib.hid (ON.nr o6)
              clear hmb g5 o6 rb
              go_wp2_with fail
              go_at_call 25
              refine (hsa.out A5 A6 c5 c6 _ t5.out t6.out).mono ?_
              rintro e v3 ⟨rfl, g5⟩
              have GG := Lib.hid (Gr.trans GG.out g5)
              have hre := hrv.out
              clear hsa g5 t5 t6
              generalize decide (MA = MB) = dd at *
              subst hre
              clear hrv
              go_wp2
              go_ret
              exact ⟨rfl, GG.out⟩
            · have hdd : (xd == yd) = false := by simpa using hd
              have hkk : (xk == xk) = true := by simp
              obtain rfl : rr = false := by rw [hv, hdd]; simp
              clear hv hd
              go_wp2_with (first
                | ((with_reducible refine wpList_isStore 34 (.tmp 11) (.tmp 33) rfl ?_); refine wpList_store_blk rfl 34 (.tmp 11) (.tmp 33) rfl w.heap.size (ndA root) rfl rfl 34 (ndA noNd) b1.out (nodeInfo _ _ _ _ _) rfl (by simp [Value.oneCell']) ?_; intro w3 n k z; have N1 := Lib.hid n; have N2 := Lib.hid (k.blk b2.out (by omega)); have GG := Lib.hid (Below.trans g2.out (Kb.below k (by rw [World.size_alloc, World.size_alloc]; omega))); have hz3 : w3.heap.size = w.heap.size + 2 := (by rw [z, World.size_alloc, World.size_alloc]); clear n k z)
                | ((with_reducible refine wpList_isStore 34 (.tmp 12) (.tmp 34) rfl ?_); refine wpList_store_blk rfl 34 (.tmp 12) (.tmp 34) rfl (w.heap.size + 1) (ndA root) rfl rfl 34 (ndA noNd) N2.out (nodeInfo _ _ _ _ _) rfl (by simp [Value.oneCell']) ?_; intro w4 n k z; have N1 := Lib.hid (k.blk N1.out (by omega)); have N2 := Lib.hid n; have GG := Lib.hid (Below.trans GG.out (Below.mono (Kb.below k (by omega)) (by omega))); have hz4 : w4.heap.size = w.heap.size + 2 := z.trans hz3; have GZ := GG; have e0 := (GZ.out.cell (p := ad.add (i * 5)) lad).trans e0; have e1 := (GZ.out.cell (p := ⟨(ad.add (i * 5)).block, (ad.add (i * 5)).off + 1, none⟩) lad).trans e1; have e2 := (GZ.out.cell (p := ⟨(ad.add (i * 5)).block, (ad.add (i * 5)).off + 2, none⟩) lad).trans e2; have e3 := (GZ.out.cell (p := ⟨(ad.add (i * 5)).block, (ad.add (i * 5)).off + 3, none⟩) lad).trans e3; have e4 := (GZ.out.cell (p := ⟨(ad.add (i * 5)).block, (ad.add (i * 5)).off + 4, none⟩) lad).trans e4; have f0 := (GZ.out.cell (p := ae.add (j * 5)) lae).trans f0; have f1 := (GZ.out.cell (p := ⟨(ae.add (j * 5)).block, (ae.add (j * 5)).off + 1, none⟩) lae).trans f1; have f2 := (GZ.out.cell (p := ⟨(ae.add (j * 5)).block, (ae.add (j * 5)).off + 2, none⟩) lae).trans f2; have f3 := (GZ.out.cell (p := ⟨(ae.add (j * 5)).block, (ae.add (j * 5)).off + 3, none⟩) lae).trans f3; have f4 := (GZ.out.cell (p := ⟨(ae.add (j * 5)).block, (ae.add (j * 5)).off + 4, none⟩) lae).trans f4; clear n k z)
                | ((with_reducible refine wpList_isStore 34 (.tmp 11) (.tmp 40) rfl ?_); refine wpList_store_blk rfl 34 (.tmp 11) (.tmp 40) rfl w.heap.size (ndA ⟨xp, xk, xm, xt, xd⟩) rfl rfl 34 (ndA root) N1.out (nodeInfo _ _ _ _ _) rfl (by simp [Value.oneCell']) ?_; intro w5 n k z; have gq : Below w.heap.size w4 w5 := Below.mono (Kb.below k (by omega)) (by omega); have N2 := Lib.hid (k.blk N2.out (by omega)); have N1 := Lib.hid n; have GG := Lib.hid (Below.trans GG.out gq); have hz5 : w5.heap.size = w.heap.size + 2 := z.trans hz4; have f0 := (gq.cell (p := ae.add (j * 5)) lae).trans f0; have f1 := (gq.cell (p := ⟨(ae.add (j * 5)).block, (ae.add (j * 5)).off + 1, none⟩) lae).trans f1; have f2 := (gq.cell (p := ⟨(ae.add (j * 5)).block, (ae.add (j * 5)).off + 2, none⟩) lae).trans f2; have f3 := (gq.cell (p := ⟨(ae.add (j * 5)).block, (ae.add (j * 5)).off + 3, none⟩) lae).trans f3; have f4 := (gq.cell (p := ⟨(ae.add (j * 5)).block, (ae.add (j * 5)).off + 4, none⟩) lae).trans f4; clear gq; clear n k z)
                | ((with_reducible refine wpList_isStore 34 (.tmp 12) (.tmp 46) rfl ?_); refine wpList_store_blk rfl 34 (.tmp 12) (.tmp 46) rfl (w.heap.size + 1) (ndA ⟨yp, xk, ym, yt, yd⟩) rfl rfl 34 (ndA root) N2.out (nodeInfo _ _ _ _ _) rfl (by simp [Value.oneCell']) ?_; intro w6 n k z; have gq : Below w.heap.size w5 w6 := Below.mono (Kb.below k (by omega)) (by omega); have N1 := Lib.hid (k.blk N1.out (by omega)); have N2 := Lib.hid n; have GG := Lib.hid (Below.trans GG.out gq); clear gq; have x1 := N1.out.cell 1; have x4 := N1.out.cell 4; have y1 := N2.out.cell 1; have y4 := N2.out.cell 4; clear n k z))
              go_ret
              exact ⟨rfl, GG.out⟩
          · have hkk : (xk == yk) = false := by simpa using hk
            obtain rfl : rr = false := by rw [hv, hkk]; rfl
            clear hv hk
            go_wp2_with (first
              | ((with_reducible refine wpList_isStore 34 (.tmp 11) (.tmp 33) rfl ?_); refine wpList_store_blk rfl 34 (.tmp 11) (.tmp 33) rfl w.heap.size (ndA root) rfl rfl 34 (ndA noNd) b1.out (nodeInfo _ _ _ _ _) rfl (by simp [Value.oneCell']) ?_; intro w3 n k z; have N1 := Lib.hid n; have N2 := Lib.hid (k.blk b2.out (by omega)); have GG := Lib.hid (Below.trans g2.out (Kb.below k (by rw [World.size_alloc, World.size_alloc]; omega))); have hz3 : w3.heap.size = w.heap.size + 2 := (by rw [z, World.size_alloc, World.size_alloc]); clear n k z)
              | ((with_reducible refine wpList_isStore 34 (.tmp 12) (.tmp 34) rfl ?_); refine wpList_store_blk rfl 34 (.tmp 12) (.tmp 34) rfl (w.heap.size + 1) (ndA root) rfl rfl 34 (ndA noNd) N2.out (nodeInfo _ _ _ _ _) rfl (by simp [Value.oneCell']) ?_; intro w4 n k z; have N1 := Lib.hid (k.blk N1.out (by omega)); have N2 := Lib.hid n; have GG := Lib.hid (Below.trans GG.out (Below.mono (Kb.below k (by omega)) (by omega))); have hz4 : w4.heap.size = w.heap.size + 2 := z.trans hz3; have GZ := GG; have e0 := (GZ.out.cell (p := ad.add (i * 5)) lad).trans e0; have e1 := (GZ.out.cell (p := ⟨(ad.add (i * 5)).block, (ad.add (i * 5)).off + 1, none⟩) lad).trans e1; have e2 := (GZ.out.cell (p := ⟨(ad.add (i * 5)).block, (ad.add (i * 5)).off + 2, none⟩) lad).trans e2; have e3 := (GZ.out.cell (p := ⟨(ad.add (i * 5)).block, (ad.add (i * 5)).off + 3, none⟩) lad).trans e3; have e4 := (GZ.out.cell (p := ⟨(ad.add (i * 5)).block, (ad.add (i * 5)).off + 4, none⟩) lad).trans e4; have f0 := (GZ.out.cell (p := ae.add (j * 5)) lae).trans f0; have f1 := (GZ.out.cell (p := ⟨(ae.add (j * 5)).block, (ae.add (j * 5)).off + 1, none⟩) lae).trans f1; have f2 := (GZ.out.cell (p := ⟨(ae.add (j * 5)).block, (ae.add (j * 5)).off + 2, none⟩) lae).trans f2; have f3 := (GZ.out.cell (p := ⟨(ae.add (j * 5)).block, (ae.add (j * 5)).off + 3, none⟩) lae).trans f3; have f4 := (GZ.out.cell (p := ⟨(ae.add (j * 5)).block, (ae.add (j * 5)).off + 4, none⟩) lae).trans f4; clear n k z)
              | ((with_reducible refine wpList_isStore 34 (.tmp 11) (.tmp 40) rfl ?_); refine wpList_store_blk rfl 34 (.tmp 11) (.tmp 40) rfl w.heap.size (ndA ⟨xp, xk, xm, xt, xd⟩) rfl rfl 34 (ndA root) N1.out (nodeInfo _ _ _ _ _) rfl (by simp [Value.oneCell']) ?_; intro w5 n k z; have gq : Below w.heap.size w4 w5 := Below.mono (Kb.below k (by omega)) (by omega); have N2 := Lib.hid (k.blk N2.out (by omega)); have N1 := Lib.hid n; have GG := Lib.hid (Below.trans GG.out gq); have hz5 : w5.heap.size = w.heap.size + 2 := z.trans hz4; have f0 := (gq.cell (p := ae.add (j * 5)) lae).trans f0; have f1 := (gq.cell (p := ⟨(ae.add (j * 5)).block, (ae.add (j * 5)).off + 1, none⟩) lae).trans f1; have f2 := (gq.cell (p := ⟨(ae.add (j * 5)).block, (ae.add (j * 5)).off + 2, none⟩) lae).trans f2; have f3 := (gq.cell (p := ⟨(ae.add (j * 5)).block, (ae.add (j * 5)).off + 3, none⟩) lae).trans f3; have f4 := (gq.cell (p := ⟨(ae.add (j * 5)).block, (ae.add (j * 5)).off + 4, none⟩) lae).trans f4; clear gq; clear n k z)
              | ((with_reducible refine wpList_isStore 34 (.tmp 12) (.tmp 46) rfl ?_); refine wpList_store_blk rfl 34 (.tmp 12) (.tmp 46) rfl (w.heap.size + 1) (ndA ⟨yp, yk, ym, yt, yd⟩) rfl rfl 34 (ndA root) N2.out (nodeInfo _ _ _ _ _) rfl (by simp [Value.oneCell']) ?_; intro w6 n k z; have gq : Below w.heap.size w5 w6 := Below.mono (Kb.below k (by omega)) (by omega); have N1 := Lib.hid (k.blk N1.out (by omega)); have N2 := Lib.hid n; have GG := Lib.hid (Below.trans GG.out gq); clear gq; have x1 := N1.out.cell 1; have x4 := N1.out.cell 4; have y1 := N2.out.cell 1; have y4 := N2.out.cell 4; clear n k z))
            go_ret
            exact ⟨rfl, GG.out⟩
end Tr
end Go.Proofs.Yteadcblmomngpaa
namespace Go.Proofs.Yteadcblmomngpaa
open Go Go.RowKit Go.Shelf W Pth
namespace Tr
theorem eql_sm (s t : Mix.St) (x y : Operand) (w : World) : (do eqGuard .eql 30 x y (Mix.sumV s) (Mix.sumV t); binOp .eql 30 (Mix.sumV s) (Mix.sumV t) : Sem Value).run Try.prog w = .ok (.bool (s == t)) w := by
  have e : (s == t) = (s.1 == t.1 && s.2 == t.2) := rfl
  rw [e]
  by_cases h1 : s.1 = t.1 <;> by_cases h2 : s.2 = t.2 <;> simp [go_sem, Mix.sumV, h1, h2]
theorem new_str2 (w : World) (s t : List UInt8) (base : Nat) (hb : base ≤ w.heap.size) : OR 9 1 (w.alloc (.cells #[str s, str t] 9)) base (.slice (some ⟨w.heap.size, 0, none⟩) 2 2) 2 (strs [s, t]) :=
  ⟨rfl, .inr ⟨w.heap.size, 2, #[str s, str t], rfl, hb, Blk.new w _ _, Nat.le_refl _, by unfold maxLen; omega, by simp, by simp⟩⟩
/-- No pair is found among these. -/
def NoK (L : List (List UInt8)) (i k : Nat) : Prop := ∀ j < k, ∀ x y, L[i]? = some x → L[j]? = some y → x = y ∨ Mix.of x ≠ Mix.of y
def NoP (L : List (List UInt8)) (i : Nat) : Prop := ∀ j < i, NoK L j j
theorem noP_not {L : List (List UInt8)} (h : NoP L L.length) : ¬ ∃ u ∈ L, ∃ v ∈ L, u ≠ v ∧ Mix.of u = Mix.of v := by
  rintro ⟨u, hu, v, hv, hne, he⟩
  obtain ⟨i, hi, rfl⟩ := List.getElem_of_mem hu
  obtain ⟨j, hj, rfl⟩ := List.getElem_of_mem hv
  rcases Nat.lt_trichotomy i j with h1 | h1 | h1
  · rcases h j hj i h1 _ _ (List.getElem?_eq_getElem hj) (List.getElem?_eq_getElem hi) with e | e
    · exact hne e.symm
    · exact e he.symm
  · subst h1; exact hne rfl
  · rcases h i hi j h1 _ _ (List.getElem?_eq_getElem hi) (List.getElem?_eq_getElem hj) with e | e
    · exact hne e
    · exact e he
theorem noK_succ {L : List (List UInt8)} {i k : Nat} (h : NoK L i k) (h2 : ∀ x y, L[i]? = some x → L[k]? = some y → x = y ∨ Mix.of x ≠ Mix.of y) : NoK L i (k + 1) := fun j hj => by
  rcases Nat.lt_succ_iff_lt_or_eq.1 hj with h1 | rfl
  · exact h j h1
  · exact h2
theorem noP_succ {L : List (List UInt8)} {i : Nat} (h : NoP L i) (h2 : NoK L i i) : NoP L (i + 1) := fun j hj => by
  rcases Nat.lt_succ_iff_lt_or_eq.1 hj with h1 | rfl
  · exact h j h1
  · exact h2
def ClI (w : World) (A B : Option Addr) (a b : List Nd) (L : List (List UInt8)) (v : Value) (W : World) : Prop := (∃ D c, v = .slice D L.length c ∧ OR 9 1 W w.heap.size (.slice D L.length c) L.length (strs L)) ∧ NR W w.heap.size A a ∧ NR W w.heap.size B b ∧ Gr w W
def txs (f : List UInt8 → List UInt8) (l : List Nd) : List (List UInt8) := l.map fun n => f n.p
theorem txs_take (f : List UInt8 → List UInt8) (l : List Nd) {k : Nat} (h : k < l.length) : txs f (l.take (k + 1)) = txs f (l.take k) ++ [f (l[k]).p] := by
  unfold txs
  rw [List.take_succ_eq_append_getElem h, List.map_append]
  rfl
theorem txs_len (f : List UInt8 → List UInt8) (l : List Nd) : (txs f l).length = l.length := List.length_map _
set_option maxRecDepth 100000 in
set_option maxHeartbeats 16000000 in
theorem refClash_any (a b : List Nd) (A B : Option Addr) (ca cb : Nat) (fa : Fit a) (fb : Fit b) (w : World) (ha : NR w w.heap.size A a) (hb : NR w w.heap.size B b) (hc : Clash a b) :
    Calls Try.prog 13 #[.slice A a.length ca, .slice B b.length cb] w fun e w' => e = .returned (.bool true) ∧ Gr w w' := by
  have ha1 := fa.1
  have hb1 := fb.1
  have hta := fun p w h => refText_any A ca a fa p w h
  have htb := fun p w h => refText_any B cb b fb p w h
  have hla := fun p => textP_len (t := a) fa.1 (fun x hx => (fa.2 x hx).2) p
  have hlb := fun p => textP_len (t := b) fb.1 (fun x hx => (fb.2 x hx).2) p
  unfold Clash clashL at hc
  obtain ⟨f, hf⟩ : ∃ f, textP a = f := ⟨_, rfl⟩
  obtain ⟨g, hg⟩ : ∃ g, textP b = g := ⟨_, rfl⟩
  rw [hf] at hta hla hc
  rw [hg] at htb hlb hc
  clear hf hg
  obtain ⟨SA, hSA⟩ : ∃ SA, f [] = SA := ⟨_, rfl⟩
  obtain ⟨SB, hSB⟩ : ∃ SB, g [] = SB := ⟨_, rfl⟩
  have ht0 := hta []
  have hu0 := htb []
  have hc2 : ∃ u ∈ ([SA, SB] ++ txs f a) ++ txs g b, ∃ v ∈ ([SA, SB] ++ txs f a) ++ txs g b, u ≠ v ∧ Mix.of u = Mix.of v := by rw [← hSA, ← hSB]; exact hc
  have hlm : ∀ x ∈ ([SA, SB] ++ txs f a) ++ txs g b, x.length ≤ 1000000 := fun x hx => by
    rcases List.mem_append.1 hx with hx | hx
    · rcases List.mem_append.1 hx with hx | hx
      · rcases List.mem_cons.1 hx with rfl | hx
        · rw [← hSA]; exact hla []
        · rw [List.mem_singleton.1 hx, ← hSB]; exact hlb []
      · obtain ⟨n, _, rfl⟩ := List.mem_map.1 hx
        exact hla _
    · obtain ⟨n, _, rfl⟩ := List.mem_map.1 hx
      exact hlb _
  rw [hSA] at ht0
  rw [hSB] at hu0
  replace hta := Lib.hid hta
  replace htb := Lib.hid htb
  replace ht0 := Lib.hid ht0
  replace hu0 := Lib.hid hu0
  replace ha := Lib.hid ha
  replace hb := Lib.hid hb
  replace hc2 := Lib.hid hc2
  replace hlm := Lib.hid hlm
  clear hc hla hlb hSA hSB fa fb
  go_enter Try.func13, Try.ntmps13
  go_wp2_with fail
  go_at_call 29
  refine (ht0.out _ ha.out).mono ?_
  rintro e w1 ⟨rfl, g1⟩
  have nb := Lib.hid (hb.out.below g1)
  have na := Lib.hid (ha.out.below g1)
  have GG := Lib.hid g1
  have hz := Lib.hid g1.size
  clear g1 ht0 ha hb
  go_wp2_with fail
  go_at_call 29
  refine (hu0.out _ (nb.out.more hz.out)).mono ?_
  rintro e w2 ⟨rfl, g1⟩
  have na := na.out.below (g1.mono hz.out)
  have nb := nb.out.below (g1.mono hz.out)
  have GG := Gr.trans GG.out g1
  have hz2 := GG.size
  have o2 := new_str2 w2 SA SB w.heap.size hz2
  have g2 := (Gr.refl w2).alloc (.cells #[str SA, str SB] 9)
  have I0 : Hid (ClI w A B a b ([SA, SB] ++ txs f (a.take 0)) (.slice (some ⟨w2.heap.size, 0, none⟩) 2 2) (w2.alloc (.cells #[str SA, str SB] 9))) := Lib.hid ⟨⟨_, _, rfl, o2⟩, na.below (g2.mono hz2), nb.below (g2.mono hz2), Gr.trans GG g2⟩
  clear g1 hu0 hz na nb GG hz2 o2 g2
  go_wp2
  go_loopw [5, 6] (fun v5 v6 wr => ∃ k : Nat, k ≤ a.length ∧ v6 = .int .i64 (k : Int) ∧ Hid (ClI w A B a b ([SA, SB] ++ txs f (a.take k)) v5 wr)) (fun _ v6 _ => a.length - (intOf v6).toNat)
  case atStart => exact ⟨0, by omega, rfl, I0⟩
  case round =>
    clear I0
    obtain ⟨k, hk, rfl, hst⟩ := hrel
    obtain ⟨⟨A0, c0, rfl, ho⟩, na, nb, gg⟩ := hst.out
    clear hst
    by_cases hkl : k < a.length
    · have ij : (k : Int) < (a.length : Int) := by omega
      have kw : IntKind.i64.wrap ((k : Int) + 1) = (k : Int) + 1 := IntWalk.i64_in _ (by omega)
      have hs : [SA, SB] ++ txs f (a.take (k + 1)) = ([SA, SB] ++ txs f (a.take k)) ++ [f (a[k]).p] := by rw [txs_take f a hkl, List.append_assoc]
      have hSl : ([SA, SB] ++ txs f (a.take k)).length ≤ 1002 := by rw [List.length_append, txs_len, List.length_take]; show 2 + _ ≤ _; omega
      have hsz := gg.size
      have hcl := Lib.hid (hta.out (a[k]).p wr (na.more hsz))
      obtain ⟨ad, rfl, hlt, e0, -⟩ := na.at_ hkl
      obtain ⟨xp, hx⟩ : ∃ xp, (a[k]).p = xp := ⟨_, rfl⟩
      rw [hx] at e0 hs hcl
      obtain ⟨s, hs0⟩ : ∃ s, f xp = s := ⟨_, rfl⟩
      rw [hs0] at hs hcl
      obtain ⟨S, hS⟩ : ∃ S, [SA, SB] ++ txs f (a.take k) = S := ⟨_, rfl⟩
      rw [hS] at ho hs hSl ⊢
      replace ho := Lib.hid ho
      replace na := Lib.hid na
      replace nb := Lib.hid nb
      replace gg := Lib.hid gg
      replace hs := Lib.hid hs
      clear hx hS hs0 hlt
      go_wp2_with fail
      go_at_call 29
      refine hcl.out.mono ?_
      rintro e w1 ⟨rfl, g1⟩
      have gA := (Gr.refl w1).alloc (.cells #[str s] 9)
      have hs1 : w.heap.size ≤ w1.heap.size := Nat.le_trans hsz g1.size
      have oA : Hid (OR 9 1 (w1.alloc (.cells #[str s] 9)) w.heap.size (.slice A0 S.length c0) S.length (strs S)) := Lib.hid (OR.below (OR.below ho.out g1) gA)
      have nA := Lib.hid (new_str w1 s)
      have na := Lib.hid ((na.out.below (g1.mono hsz)).below (gA.mono hs1))
      have nb := Lib.hid ((nb.out.below (g1.mono hsz)).below (gA.mono hs1))
      have gg := Lib.hid (Gr.trans (Gr.trans gg.out g1) gA)
      clear g1 gA hcl ho e0
      go_wp2_with (first
        | ((with_reducible refine wpList_isApp (.tmp 21) (.tmp 29) 50 rfl ?_); refine wpList_append_rowsN (base := w.heap.size) (v := .slice A0 S.length c0) rfl (.tmp 21) (.tmp 29) 50 rfl Try.underlying50 strRow rfl (by exact oA.out) (w1.heap.size + 1) (some ⟨w1.heap.size, 0, none⟩) 1 1 (strs [s]) rfl (by exact nA.out) (by simp [strs, Value.oneCell']) (by unfold maxLen; omega) (by omega) (by rw [World.size_alloc]; omega) (strs (S ++ [s])) (strs_app _ _) (S.length + 1) rfl ?_; intro A9 c9 w9 o9 b9; have na := Lib.hid (na.out.below b9); have nb := Lib.hid (nb.out.below b9); have gg := Lib.hid (Below.trans gg.out b9); replace o9 := Lib.hid o9; clear oA nA b9))
      have hlen : ([SA, SB] ++ txs f (a.take (k + 1))).length = S.length + 1 := by rw [hs.out, List.length_append]; rfl
      refine ⟨⟨k + 1, by omega, by go_num, Lib.hid ⟨⟨A9, c9, by rw [hlen], ?_⟩, na.out, nb.out, gg.out⟩⟩, by simp [intOf]; omega⟩
      rw [hlen, hs.out]
      exact o9.out
    · obtain rfl : k = a.length := by omega
      rw [List.take_length] at ho ⊢
      have I0 : Hid (ClI w A B a b ([SA, SB] ++ txs f a ++ txs g (b.take 0)) (.slice A0 ([SA, SB] ++ txs f a).length c0) wr) := by
        have e : [SA, SB] ++ txs f a ++ txs g (b.take 0) = [SA, SB] ++ txs f a := by simp [txs]
        rw [e]
        exact Lib.hid ⟨⟨_, _, rfl, ho⟩, na, nb, gg⟩
      have hPl : ([SA, SB] ++ txs f a).length ≤ 1002 := by rw [List.length_append, txs_len]; show 2 + _ ≤ _; omega
      obtain ⟨P, hP⟩ : ∃ P, [SA, SB] ++ txs f a = P := ⟨_, rfl⟩
      rw [hP] at I0 hPl hc2 hlm ⊢
      clear ho na nb gg hta hP
      go_wp2
      go_loopw [5, 7] (fun v5 v7 wr2 => ∃ k : Nat, k ≤ b.length ∧ v7 = .int .i64 (k : Int) ∧ Hid (ClI w A B a b (P ++ txs g (b.take k)) v5 wr2)) (fun _ v7 _ => b.length - (intOf v7).toNat)
      case atStart => exact ⟨0, by omega, rfl, I0⟩
      case round =>
        clear I0
        obtain ⟨k, hk, rfl, hst⟩ := hrel
        obtain ⟨⟨A0, c0, rfl, ho⟩, na, nb, gg⟩ := hst.out
        clear hst
        by_cases hkl : k < b.length
        · have ij : (k : Int) < (b.length : Int) := by omega
          have kw : IntKind.i64.wrap ((k : Int) + 1) = (k : Int) + 1 := IntWalk.i64_in _ (by omega)
          have hs : P ++ txs g (b.take (k + 1)) = (P ++ txs g (b.take k)) ++ [g (b[k]).p] := by rw [txs_take g b hkl, List.append_assoc]
          have hSl : (P ++ txs g (b.take k)).length ≤ 2002 := by rw [List.length_append, txs_len, List.length_take]; omega
          have hsz := gg.size
          have hcl := Lib.hid (htb.out (b[k]).p wr (nb.more hsz))
          obtain ⟨ad, rfl, hlt, e0, -⟩ := nb.at_ hkl
          obtain ⟨xp, hx⟩ : ∃ xp, (b[k]).p = xp := ⟨_, rfl⟩
          rw [hx] at e0 hs hcl
          obtain ⟨s, hs0⟩ : ∃ s, g xp = s := ⟨_, rfl⟩
          rw [hs0] at hs hcl
          obtain ⟨S, hS⟩ : ∃ S, P ++ txs g (b.take k) = S := ⟨_, rfl⟩
          rw [hS] at ho hs hSl ⊢
          replace ho := Lib.hid ho
          replace na := Lib.hid na
          replace nb := Lib.hid nb
          replace gg := Lib.hid gg
          replace hs := Lib.hid hs
          clear hx hS hs0 hlt
          go_wp2_with fail
          go_at_call 29
          refine hcl.out.mono ?_
          rintro e w1 ⟨rfl, g1⟩
          have gA := (Gr.refl w1).alloc (.cells #[str s] 9)
          have hs1 : w.heap.size ≤ w1.heap.size := Nat.le_trans hsz g1.size
          have oA : Hid (OR 9 1 (w1.alloc (.cells #[str s] 9)) w.heap.size (.slice A0 S.length c0) S.length (strs S)) := Lib.hid (OR.below (OR.below ho.out g1) gA)
          have nA := Lib.hid (new_str w1 s)
          have na := Lib.hid ((na.out.below (g1.mono hsz)).below (gA.mono hs1))
          have nb := Lib.hid ((nb.out.below (g1.mono hsz)).below (gA.mono hs1))
          have gg := Lib.hid (Gr.trans (Gr.trans gg.out g1) gA)
          clear g1 gA hcl ho e0
          go_wp2_with (first
            | ((with_reducible refine wpList_isApp (.tmp 37) (.tmp 45) 50 rfl ?_); refine wpList_append_rowsN (base := w.heap.size) (v := .slice A0 S.length c0) rfl (.tmp 37) (.tmp 45) 50 rfl Try.underlying50 strRow rfl (by exact oA.out) (w1.heap.size + 1) (some ⟨w1.heap.size, 0, none⟩) 1 1 (strs [s]) rfl (by exact nA.out) (by simp [strs, Value.oneCell']) (by unfold maxLen; omega) (by omega) (by rw [World.size_alloc]; omega) (strs (S ++ [s])) (strs_app _ _) (S.length + 1) rfl ?_; intro A9 c9 w9 o9 b9; have na := Lib.hid (na.out.below b9); have nb := Lib.hid (nb.out.below b9); have gg := Lib.hid (Below.trans gg.out b9); replace o9 := Lib.hid o9; clear oA nA b9))
          have hlen : (P ++ txs g (b.take (k + 1))).length = S.length + 1 := by rw [hs.out, List.length_append]; rfl
          refine ⟨⟨k + 1, by omega, by go_num, Lib.hid ⟨⟨A9, c9, by rw [hlen], ?_⟩, na.out, nb.out, gg.out⟩⟩, by simp [intOf]; omega⟩
          rw [hlen, hs.out]
          exact o9.out
        · obtain rfl : k = b.length := by omega
          rw [List.take_length] at ho ⊢
          have hLl : (P ++ txs g b).length ≤ 2002 := by rw [List.length_append, txs_len]; omega
          obtain ⟨L, hL⟩ : ∃ L, P ++ txs g b = L := ⟨_, rfl⟩
          rw [hL] at ho hc2 hlm hLl ⊢
          obtain ⟨wL, rfl⟩ : ∃ wL, wL = wr := ⟨_, rfl⟩
          have tt := Lib.hid (OR.reads ho)
          replace gg := Lib.hid gg
          clear ho na nb htb hL hPl
          go_wp2
          go_loopw [8, 9] (fun v8 _ wr3 => ∃ i : Nat, i ≤ L.length ∧ v8 = .int .i64 (i : Int) ∧ Hid (NoP L i ∧ Gr wL wr3)) (fun v8 _ _ => L.length - (intOf v8).toNat)
          case atStart => exact ⟨0, by omega, rfl, Lib.hid ⟨fun j hj => absurd hj (by omega), Gr.refl _⟩⟩
          case round =>
            obtain ⟨i, hi, rfl, hst⟩ := hrel
            by_cases hil : i < L.length
            · have ij : (i : Int) < (L.length : Int) := by omega
              have iw : IntKind.i64.wrap ((i : Int) + 1) = (i : Int) + 1 := IntWalk.i64_in _ (by omega)
              go_wp2
              go_loopw [9] (fun v9 wr4 => ∃ k : Nat, k ≤ i ∧ v9 = .int .i64 (k : Int) ∧ Hid (NoK L i k ∧ Gr wL wr4)) (fun v9 _ => i - (intOf v9).toNat)
              case atStart => exact ⟨0, by omega, rfl, Lib.hid ⟨fun j hj => absurd hj (by omega), hst.out.2⟩⟩
              case round =>
                obtain ⟨k, hk, rfl, hst2⟩ := hrel
                by_cases hki : k < i
                · have ik : (k : Int) < (i : Int) := by omega
                  have kw : IntKind.i64.wrap ((k : Int) + 1) = (k : Int) + 1 := IntWalk.i64_in _ (by omega)
                  obtain ⟨hno, gz⟩ := hst2.out
                  have hkl : k < L.length := by omega
                  obtain ⟨ad, rfl, m1, c1⟩ := row_str (c := c0) (Reads.below tt.out gz) hil rfl
                  obtain ⟨ad2, e2, m2, c2⟩ := row_str (c := c0) (Reads.below tt.out gz) hkl rfl
                  obtain rfl := Option.some.inj e2
                  have sz := Below.size gz
                  have l1 : (ad.add i).block < wr.heap.size := by omega
                  have l2 : (ad.add k).block < wr.heap.size := by omega
                  have hou := Lib.hid (fun w => Mix.refOf_any L[i] w (Nat.le_trans (hlm.out _ (List.getElem_mem hil)) (by omega)))
                  have hov := Lib.hid (fun w => Mix.refOf_any L[k] w (Nat.le_trans (hlm.out _ (List.getElem_mem hkl)) (by omega)))
                  have hnx : L[i] = L[k] ∨ Mix.of L[i] ≠ Mix.of L[k] → NoK L i (k + 1) := fun h => noK_succ hno fun x y hx hy => by
                    rw [List.getElem?_eq_getElem hil] at hx
                    rw [List.getElem?_eq_getElem hkl] at hy
                    rw [← Option.some.inj hx, ← Option.some.inj hy]
                    exact h
                  obtain ⟨U, hU⟩ : ∃ U, L[i] = U := ⟨_, rfl⟩
                  obtain ⟨V, hV⟩ : ∃ V, L[k] = V := ⟨_, rfl⟩
                  rw [hU] at c1 hou hnx
                  rw [hV] at c2 hov hnx
                  obtain ⟨su, hsu⟩ : ∃ su, Mix.of U = su := ⟨_, rfl⟩
                  obtain ⟨sv, hsv⟩ : ∃ sv, Mix.of V = sv := ⟨_, rfl⟩
                  rw [hsu] at hou hnx
                  rw [hsv] at hov hnx
                  replace gz := Lib.hid gz
                  clear hno hst2 hst m1 m2 e2 sz hsu hsv hU hV
                  by_cases huv : U = V
                  · have hN := Lib.hid (hnx (.inl huv))
                    subst huv
                    clear hnx
                    go_wp2
                    refine region_grow rfl (by kernel_rfl) ?_
                    refine GW.mv rfl trivial (.inl rfl) (kn0 (t := 5) (c := .slice (some ad) L.length c0) (by kernel_rfl) rfl) (eqv_lasts _) ?_
                    refine GW.mv rfl trivial (.inl rfl) (kn0 (t := 8) (c := .int .i64 (i : Int)) (by kernel_rfl) rfl) (eqv_lasts _) ?_
                    refine GW.p2 (.pointer (some (ad.add i))) rfl trivial (kn (t := 58) (j := 0) (by kernel_rfl)) (kn (t := 59) (j := 1) (by kernel_rfl)) (fun ρ w' h1 h2 hg => by show ((Instr.indexAt 50 (ρ (.tmp 58)) (ρ (.tmp 59)) >>= fun v => pure (Next.value v)) : Sem Next).run Try.prog w' = _; rw [h1, h2, Sem.run_bind, run_idxR w' Try.underlying50 (size := 1) (by kernel_rfl) ad _ _ i hil]; simp) ?_
                    refine GW.p1 (str U) rfl trivial (kn (t := 60) (j := 2) (by kernel_rfl)) (fun ρ w' hρ hg => by simp [execOp, hρ, go_sem, (hg.cell (p := (ad.add i)) l1).trans c1]) ?_
                    refine GW.mv rfl trivial (.inl rfl) (kn0 (t := 5) (c := .slice (some ad) L.length c0) (by kernel_rfl) rfl) (eqv_lasts _) ?_
                    refine GW.mv rfl trivial (.inl rfl) (kn0 (t := 9) (c := .int .i64 (k : Int)) (by kernel_rfl) rfl) (eqv_lasts _) ?_
                    refine GW.p2 (.pointer (some (ad.add k))) rfl trivial (kn (t := 62) (j := 4) (by kernel_rfl)) (kn (t := 63) (j := 5) (by kernel_rfl)) (fun ρ w' h1 h2 hg => by show ((Instr.indexAt 50 (ρ (.tmp 62)) (ρ (.tmp 63)) >>= fun v => pure (Next.value v)) : Sem Next).run Try.prog w' = _; rw [h1, h2, Sem.run_bind, run_idxR w' Try.underlying50 (size := 1) (by kernel_rfl) ad _ _ k hkl]; simp) ?_
                    refine GW.p1 (str U) rfl trivial (kn (t := 64) (j := 6) (by kernel_rfl)) (fun ρ w' hρ hg => by simp [execOp, hρ, go_sem, (hg.cell (p := (ad.add k)) l2).trans c2]) ?_
                    refine GW.bin (.bool false) rfl trivial rfl (kn (t := 61) (j := 3) (by kernel_rfl)) (kn (t := 65) (j := 7) (by kernel_rfl)) (fun w' => by simp [go_sem]) ?_
                    refine GW.mv rfl trivial (.inl rfl) (kn (t := 66) (j := 8) (by kernel_rfl)) (eqv_lasts _) ?_
                    refine GW.skip rfl rfl (d := 67) (by kernel_rfl) (by kernel_rfl) (fun _ _ h => .inl h) ?_
                    refine GW.skip rfl rfl (d := 67) (by kernel_rfl) (by kernel_rfl) (fun _ _ h => .inl h) ?_
                    refine GW.skip rfl rfl (d := 67) (by kernel_rfl) (by kernel_rfl) (fun _ _ h => .inl h) ?_
                    refine GW.skip rfl rfl (d := 67) (by kernel_rfl) (by kernel_rfl) (fun _ _ h => .inl h) ?_
                    refine GW.skip rfl rfl (d := 67) (by kernel_rfl) (by kernel_rfl) (fun _ _ h => .inl h) ?_
                    refine GW.skip rfl rfl (d := 67) (by kernel_rfl) (by kernel_rfl) (fun _ _ h => .inl h) ?_
                    refine GW.skip rfl rfl (d := 67) (by kernel_rfl) (by kernel_rfl) (fun _ _ h => .inl h) ?_
                    refine GW.skip rfl rfl (d := 67) (by kernel_rfl) (by kernel_rfl) (fun _ _ h => .inl h) ?_
                    refine GW.skip rfl rfl (d := 67) (by kernel_rfl) (by kernel_rfl) (fun _ _ h => .inl h) ?_
                    refine GW.skip rfl rfl (d := 67) (by kernel_rfl) (by kernel_rfl) (fun _ _ h => .inl h) ?_
                    refine GW.skip rfl rfl (d := 67) (by kernel_rfl) (by kernel_rfl) (fun _ _ h => .inl h) ?_
                    refine GW.pick (b := false) rfl trivial rfl (kn (t := 67) (j := 9) (by kernel_rfl)) (knc) (eqv_lasts _) ?_
                    refine GW.done (by simp) (by kernel_rfl) (fun w' hg => ?_)
                    rintro v0 - v1 - v2 - v3 - v4 - v5 - v6 - v7 - v8 - v9 - v10 - v11 - v12 - v13 - v14 - v15 - v16 - v17 - v18 - v19 - v20 - v21 h21
                    obtain rfl : v21 = (Value.bool false) := h21
                    simp only [GFin, Act.put, List.setIfInBounds_toArray, List.set_cons_succ, List.set_cons_zero]
                    have g9 := Lib.hid (Gr.trans gz.out hg)
                    clear hg gz c1 c2 l1 l2 hou hov
                    go_wp2
                    exact ⟨⟨k + 1, by omega, by go_num, Lib.hid ⟨hN.out, g9.out⟩⟩, by simp [intOf]; omega⟩
                  · by_cases hss : su = sv
                    · have hse : (su == sv) = true := by simpa using hss
                      clear hnx hss
                      go_wp2
                      refine region_grow rfl (by kernel_rfl) ?_
                      refine GW.mv rfl trivial (.inl rfl) (kn0 (t := 5) (c := .slice (some ad) L.length c0) (by kernel_rfl) rfl) (eqv_lasts _) ?_
                      refine GW.mv rfl trivial (.inl rfl) (kn0 (t := 8) (c := .int .i64 (i : Int)) (by kernel_rfl) rfl) (eqv_lasts _) ?_
                      refine GW.p2 (.pointer (some (ad.add i))) rfl trivial (kn (t := 58) (j := 0) (by kernel_rfl)) (kn (t := 59) (j := 1) (by kernel_rfl)) (fun ρ w' h1 h2 hg => by show ((Instr.indexAt 50 (ρ (.tmp 58)) (ρ (.tmp 59)) >>= fun v => pure (Next.value v)) : Sem Next).run Try.prog w' = _; rw [h1, h2, Sem.run_bind, run_idxR w' Try.underlying50 (size := 1) (by kernel_rfl) ad _ _ i hil]; simp) ?_
                      refine GW.p1 (str U) rfl trivial (kn (t := 60) (j := 2) (by kernel_rfl)) (fun ρ w' hρ hg => by simp [execOp, hρ, go_sem, (hg.cell (p := (ad.add i)) l1).trans c1]) ?_
                      refine GW.mv rfl trivial (.inl rfl) (kn0 (t := 5) (c := .slice (some ad) L.length c0) (by kernel_rfl) rfl) (eqv_lasts _) ?_
                      refine GW.mv rfl trivial (.inl rfl) (kn0 (t := 9) (c := .int .i64 (k : Int)) (by kernel_rfl) rfl) (eqv_lasts _) ?_
                      refine GW.p2 (.pointer (some (ad.add k))) rfl trivial (kn (t := 62) (j := 4) (by kernel_rfl)) (kn (t := 63) (j := 5) (by kernel_rfl)) (fun ρ w' h1 h2 hg => by show ((Instr.indexAt 50 (ρ (.tmp 62)) (ρ (.tmp 63)) >>= fun v => pure (Next.value v)) : Sem Next).run Try.prog w' = _; rw [h1, h2, Sem.run_bind, run_idxR w' Try.underlying50 (size := 1) (by kernel_rfl) ad _ _ k hkl]; simp) ?_
                      refine GW.p1 (str V) rfl trivial (kn (t := 64) (j := 6) (by kernel_rfl)) (fun ρ w' hρ hg => by simp [execOp, hρ, go_sem, (hg.cell (p := (ad.add k)) l2).trans c2]) ?_
                      refine GW.bin (.bool true) rfl trivial rfl (kn (t := 61) (j := 3) (by kernel_rfl)) (kn (t := 65) (j := 7) (by kernel_rfl)) (fun w' => by simp [go_sem, huv]) ?_
                      refine GW.mv rfl trivial (.inl rfl) (kn (t := 66) (j := 8) (by kernel_rfl)) (eqv_lasts _) ?_
                      refine GW.mv rfl ⟨67, by kernel_rfl, by kernel_rfl, fun _ _ h => h⟩ (.inl rfl) (kn0 (t := 5) (c := .slice (some ad) L.length c0) (by kernel_rfl) rfl) (eqv_lasts _) ?_
                      refine GW.mv rfl ⟨67, by kernel_rfl, by kernel_rfl, fun _ _ h => h⟩ (.inl rfl) (kn0 (t := 8) (c := .int .i64 (i : Int)) (by kernel_rfl) rfl) (eqv_lasts _) ?_
                      refine GW.p2 (.pointer (some (ad.add i))) rfl ⟨67, by kernel_rfl, by kernel_rfl, fun _ _ h => h⟩ (kn (t := 68) (j := 10) (by kernel_rfl)) (kn (t := 69) (j := 11) (by kernel_rfl)) (fun ρ w' h1 h2 hg => by show ((Instr.indexAt 50 (ρ (.tmp 68)) (ρ (.tmp 69)) >>= fun v => pure (Next.value v)) : Sem Next).run Try.prog w' = _; rw [h1, h2, Sem.run_bind, run_idxR w' Try.underlying50 (size := 1) (by kernel_rfl) ad _ _ i hil]; simp) ?_
                      refine GW.p1 (str U) rfl ⟨67, by kernel_rfl, by kernel_rfl, fun _ _ h => h⟩ (kn (t := 70) (j := 12) (by kernel_rfl)) (fun ρ w' hρ hg => by simp [execOp, hρ, go_sem, (hg.cell (p := (ad.add i)) l1).trans c1]) ?_
                      refine GW.call1 (eqv (Mix.sumV su)) rfl ⟨67, by kernel_rfl, by kernel_rfl, fun _ _ h => h⟩ rfl Try.func18 (by kernel_rfl) (by kernel_rfl) (eqv_lasts _) (kn (t := 71) (j := 13) (by kernel_rfl)) (fun v w' hg hv => ?_) ?_
                      · obtain rfl : v = _ := hv
                        refine (hou.out w').mono ?_
                        rintro e w9 ⟨rfl, hg9⟩
                        exact ⟨_, rfl, rfl, hg9⟩
                      refine GW.mv rfl ⟨67, by kernel_rfl, by kernel_rfl, fun _ _ h => h⟩ (.inl rfl) (kn0 (t := 5) (c := .slice (some ad) L.length c0) (by kernel_rfl) rfl) (eqv_lasts _) ?_
                      refine GW.mv rfl ⟨67, by kernel_rfl, by kernel_rfl, fun _ _ h => h⟩ (.inl rfl) (kn0 (t := 9) (c := .int .i64 (k : Int)) (by kernel_rfl) rfl) (eqv_lasts _) ?_
                      refine GW.p2 (.pointer (some (ad.add k))) rfl ⟨67, by kernel_rfl, by kernel_rfl, fun _ _ h => h⟩ (kn (t := 73) (j := 15) (by kernel_rfl)) (kn (t := 74) (j := 16) (by kernel_rfl)) (fun ρ w' h1 h2 hg => by show ((Instr.indexAt 50 (ρ (.tmp 73)) (ρ (.tmp 74)) >>= fun v => pure (Next.value v)) : Sem Next).run Try.prog w' = _; rw [h1, h2, Sem.run_bind, run_idxR w' Try.underlying50 (size := 1) (by kernel_rfl) ad _ _ k hkl]; simp) ?_
                      refine GW.p1 (str V) rfl ⟨67, by kernel_rfl, by kernel_rfl, fun _ _ h => h⟩ (kn (t := 75) (j := 17) (by kernel_rfl)) (fun ρ w' hρ hg => by simp [execOp, hρ, go_sem, (hg.cell (p := (ad.add k)) l2).trans c2]) ?_
                      refine GW.call1 (eqv (Mix.sumV sv)) rfl ⟨67, by kernel_rfl, by kernel_rfl, fun _ _ h => h⟩ rfl Try.func18 (by kernel_rfl) (by kernel_rfl) (eqv_lasts _) (kn (t := 76) (j := 18) (by kernel_rfl)) (fun v w' hg hv => ?_) ?_
                      · obtain rfl : v = _ := hv
                        refine (hov.out w').mono ?_
                        rintro e w9 ⟨rfl, hg9⟩
                        exact ⟨_, rfl, rfl, hg9⟩
                      refine GW.bin (.bool true) rfl ⟨67, by kernel_rfl, by kernel_rfl, fun _ _ h => h⟩ rfl (kn (t := 72) (j := 14) (by kernel_rfl)) (kn (t := 77) (j := 19) (by kernel_rfl)) (fun w' => (eql_sm su sv _ _ w').trans (by rw [hse])) ?_
                      refine GW.pick (b := true) rfl trivial rfl (kn (t := 67) (j := 9) (by kernel_rfl)) (kn (t := 78) (j := 20) (by kernel_rfl)) (eqv_lasts _) ?_
                      refine GW.done (by simp) (by kernel_rfl) (fun w' hg => ?_)
                      rintro v0 - v1 - v2 - v3 - v4 - v5 - v6 - v7 - v8 - v9 - v10 - v11 - v12 - v13 - v14 - v15 - v16 - v17 - v18 - v19 - v20 - v21 h21
                      obtain rfl : v21 = (.bool true) := h21
                      simp only [GFin, Act.put, List.setIfInBounds_toArray, List.set_cons_succ, List.set_cons_zero]
                      have g9 := Lib.hid (Gr.trans gg.out (Gr.trans gz.out hg))
                      clear hg gz c1 c2 l1 l2 hou hov
                      go_wp2
                      go_ret
                      exact ⟨rfl, g9.out⟩
                    · have hse : (su == sv) = false := by simpa using hss
                      have hN := Lib.hid (hnx (.inr hss))
                      clear hnx hss
                      go_wp2
                      refine region_grow rfl (by kernel_rfl) ?_
                      refine GW.mv rfl trivial (.inl rfl) (kn0 (t := 5) (c := .slice (some ad) L.length c0) (by kernel_rfl) rfl) (eqv_lasts _) ?_
                      refine GW.mv rfl trivial (.inl rfl) (kn0 (t := 8) (c := .int .i64 (i : Int)) (by kernel_rfl) rfl) (eqv_lasts _) ?_
                      refine GW.p2 (.pointer (some (ad.add i))) rfl trivial (kn (t := 58) (j := 0) (by kernel_rfl)) (kn (t := 59) (j := 1) (by kernel_rfl)) (fun ρ w' h1 h2 hg => by show ((Instr.indexAt 50 (ρ (.tmp 58)) (ρ (.tmp 59)) >>= fun v => pure (Next.value v)) : Sem Next).run Try.prog w' = _; rw [h1, h2, Sem.run_bind, run_idxR w' Try.underlying50 (size := 1) (by kernel_rfl) ad _ _ i hil]; simp) ?_
                      refine GW.p1 (str U) rfl trivial (kn (t := 60) (j := 2) (by kernel_rfl)) (fun ρ w' hρ hg => by simp [execOp, hρ, go_sem, (hg.cell (p := (ad.add i)) l1).trans c1]) ?_
                      refine GW.mv rfl trivial (.inl rfl) (kn0 (t := 5) (c := .slice (some ad) L.length c0) (by kernel_rfl) rfl) (eqv_lasts _) ?_
                      refine GW.mv rfl trivial (.inl rfl) (kn0 (t := 9) (c := .int .i64 (k : Int)) (by kernel_rfl) rfl) (eqv_lasts _) ?_
                      refine GW.p2 (.pointer (some (ad.add k))) rfl trivial (kn (t := 62) (j := 4) (by kernel_rfl)) (kn (t := 63) (j := 5) (by kernel_rfl)) (fun ρ w' h1 h2 hg => by show ((Instr.indexAt 50 (ρ (.tmp 62)) (ρ (.tmp 63)) >>= fun v => pure (Next.value v)) : Sem Next).run Try.prog w' = _; rw [h1, h2, Sem.run_bind, run_idxR w' Try.underlying50 (size := 1) (by kernel_rfl) ad _ _ k hkl]; simp) ?_
                      refine GW.p1 (str V) rfl trivial (kn (t := 64) (j := 6) (by kernel_rfl)) (fun ρ w' hρ hg => by simp [execOp, hρ, go_sem, (hg.cell (p := (ad.add k)) l2).trans c2]) ?_
                      refine GW.bin (.bool true) rfl trivial rfl (kn (t := 61) (j := 3) (by kernel_rfl)) (kn (t := 65) (j := 7) (by kernel_rfl)) (fun w' => by simp [go_sem, huv]) ?_
                      refine GW.mv rfl trivial (.inl rfl) (kn (t := 66) (j := 8) (by kernel_rfl)) (eqv_lasts _) ?_
                      refine GW.mv rfl ⟨67, by kernel_rfl, by kernel_rfl, fun _ _ h => h⟩ (.inl rfl) (kn0 (t := 5) (c := .slice (some ad) L.length c0) (by kernel_rfl) rfl) (eqv_lasts _) ?_
                      refine GW.mv rfl ⟨67, by kernel_rfl, by kernel_rfl, fun _ _ h => h⟩ (.inl rfl) (kn0 (t := 8) (c := .int .i64 (i : Int)) (by kernel_rfl) rfl) (eqv_lasts _) ?_
                      refine GW.p2 (.pointer (some (ad.add i))) rfl ⟨67, by kernel_rfl, by kernel_rfl, fun _ _ h => h⟩ (kn (t := 68) (j := 10) (by kernel_rfl)) (kn (t := 69) (j := 11) (by kernel_rfl)) (fun ρ w' h1 h2 hg => by show ((Instr.indexAt 50 (ρ (.tmp 68)) (ρ (.tmp 69)) >>= fun v => pure (Next.value v)) : Sem Next).run Try.prog w' = _; rw [h1, h2, Sem.run_bind, run_idxR w' Try.underlying50 (size := 1) (by kernel_rfl) ad _ _ i hil]; simp) ?_
                      refine GW.p1 (str U) rfl ⟨67, by kernel_rfl, by kernel_rfl, fun _ _ h => h⟩ (kn (t := 70) (j := 12) (by kernel_rfl)) (fun ρ w' hρ hg => by simp [execOp, hρ, go_sem, (hg.cell (p := (ad.add i)) l1).trans c1]) ?_
                      refine GW.call1 (eqv (Mix.sumV su)) rfl ⟨67, by kernel_rfl, by kernel_rfl, fun _ _ h => h⟩ rfl Try.func18 (by kernel_rfl) (by kernel_rfl) (eqv_lasts _) (kn (t := 71) (j := 13) (by kernel_rfl)) (fun v w' hg hv => ?_) ?_
                      · obtain rfl : v = _ := hv
                        refine (hou.out w').mono ?_
                        rintro e w9 ⟨rfl, hg9⟩
                        exact ⟨_, rfl, rfl, hg9⟩
                      refine GW.mv rfl ⟨67, by kernel_rfl, by kernel_rfl, fun _ _ h => h⟩ (.inl rfl) (kn0 (t := 5) (c := .slice (some ad) L.length c0) (by kernel_rfl) rfl) (eqv_lasts _) ?_
                      refine GW.mv rfl ⟨67, by kernel_rfl, by kernel_rfl, fun _ _ h => h⟩ (.inl rfl) (kn0 (t := 9) (c := .int .i64 (k : Int)) (by kernel_rfl) rfl) (eqv_lasts _) ?_
                      refine GW.p2 (.pointer (some (ad.add k))) rfl ⟨67, by kernel_rfl, by kernel_rfl, fun _ _ h => h⟩ (kn (t := 73) (j := 15) (by kernel_rfl)) (kn (t := 74) (j := 16) (by kernel_rfl)) (fun ρ w' h1 h2 hg => by show ((Instr.indexAt 50 (ρ (.tmp 73)) (ρ (.tmp 74)) >>= fun v => pure (Next.value v)) : Sem Next).run Try.prog w' = _; rw [h1, h2, Sem.run_bind, run_idxR w' Try.underlying50 (size := 1) (by kernel_rfl) ad _ _ k hkl]; simp) ?_
                      refine GW.p1 (str V) rfl ⟨67, by kernel_rfl, by kernel_rfl, fun _ _ h => h⟩ (kn (t := 75) (j := 17) (by kernel_rfl)) (fun ρ w' hρ hg => by simp [execOp, hρ, go_sem, (hg.cell (p := (ad.add k)) l2).trans c2]) ?_
                      refine GW.call1 (eqv (Mix.sumV sv)) rfl ⟨67, by kernel_rfl, by kernel_rfl, fun _ _ h => h⟩ rfl Try.func18 (by kernel_rfl) (by kernel_rfl) (eqv_lasts _) (kn (t := 76) (j := 18) (by kernel_rfl)) (fun v w' hg hv => ?_) ?_
                      · obtain rfl : v = _ := hv
                        refine (hov.out w').mono ?_
                        rintro e w9 ⟨rfl, hg9⟩
                        exact ⟨_, rfl, rfl, hg9⟩
                      refine GW.bin (.bool false) rfl ⟨67, by kernel_rfl, by kernel_rfl, fun _ _ h => h⟩ rfl (kn (t := 72) (j := 14) (by kernel_rfl)) (kn (t := 77) (j := 19) (by kernel_rfl)) (fun w' => (eql_sm su sv _ _ w').trans (by rw [hse])) ?_
                      refine GW.pick (b := true) rfl trivial rfl (kn (t := 67) (j := 9) (by kernel_rfl)) (kn (t := 78) (j := 20) (by kernel_rfl)) (eqv_lasts _) ?_
                      refine GW.done (by simp) (by kernel_rfl) (fun w' hg => ?_)
                      rintro v0 - v1 - v2 - v3 - v4 - v5 - v6 - v7 - v8 - v9 - v10 - v11 - v12 - v13 - v14 - v15 - v16 - v17 - v18 - v19 - v20 - v21 h21
                      obtain rfl : v21 = (.bool false) := h21
                      simp only [GFin, Act.put, List.setIfInBounds_toArray, List.set_cons_succ, List.set_cons_zero]
                      have g9 := Lib.hid (Gr.trans gz.out hg)
                      clear hg gz c1 c2 l1 l2 hou hov
                      go_wp2
                      exact ⟨⟨k + 1, by omega, by go_num, Lib.hid ⟨hN.out, g9.out⟩⟩, by simp [intOf]; omega⟩
                · obtain rfl : k = i := by omega
                  have hN := Lib.hid (show _ ∧ _ from ⟨noP_succ hst.out.1 hst2.out.1, hst2.out.2⟩)
                  clear hst hst2
                  go_wp2
                  exact ⟨⟨k + 1, by omega, by go_num, hN⟩, by simp [intOf]; omega⟩
            · obtain rfl : i = L.length := by omega
              exact (noP_not hst.out.1 hc2.out).elim
end Tr
end Go.Proofs.Yteadcblmomngpaa
namespace Go.Proofs.Yteadcblmomngpaa
open Go Go.RowKit Go.Shelf W Pth
namespace Mix
def feedN : Nat → St → List UInt8 → St
  | 0, s, _ => s
  | n + 1, s, l => if 8 ≤ l.length then feedN n (round s (word (l.take 8))) (l.drop 8) else s
def restN : Nat → List UInt8 → List UInt8
  | 0, l => l
  | n + 1, l => if 8 ≤ l.length then restN n (l.drop 8) else l
theorem feed_N : ∀ (n : Nat) (s : St) (l : List UInt8), l.length ≤ n → feed s l = feedN n s l
  | 0, s, l, h => by rw [feed_less (by omega)]; rfl
  | n + 1, s, l, h => by
    rw [feedN]
    by_cases h8 : 8 ≤ l.length
    · rw [if_pos h8, feed_more h8, feed_N n _ _ (by rw [List.length_drop]; omega)]
    · rw [if_neg h8, feed_less h8]
theorem rest_N : ∀ (n : Nat) (l : List UInt8), l.length ≤ n → rest l = restN n l
  | 0, l, h => by rw [rest_less (by omega)]; rfl
  | n + 1, l, h => by
    rw [restN]
    by_cases h8 : 8 ≤ l.length
    · rw [if_pos h8, rest_more h8, rest_N n _ (by rw [List.length_drop]; omega)]
    · rw [if_neg h8, rest_less h8]
def ofN (n : Nat) (l : List UInt8) : St := closed (tailed (feedN n start l) (restN n l)) (UInt64.ofNat l.length)
theorem of_N {n : Nat} {l : List UInt8} (h : l.length ≤ n) : of l = ofN n l := by unfold of ofN; rw [feed_N n _ _ h, rest_N n _ h]
end Mix
namespace Tr
def smallP (l : List Nd) : Bool := decide (l.length ≤ 24) && l.all fun n => decide (n.p.length ≤ 200 ∧ n.data.length ≤ 500)
theorem small_iff {l : List Nd} : smallP l = true ↔ l.length ≤ 24 ∧ ∀ n ∈ l, n.p.length ≤ 200 ∧ n.data.length ≤ 500 := by
  unfold smallP
  simp [List.all_eq_true]
theorem small_fit {l : List Nd} (h : smallP l = true) : Fit l := by
  obtain ⟨h1, h2⟩ := small_iff.1 h
  exact ⟨by omega, fun n hn => by have := h2 n hn; omega⟩
set_option maxRecDepth 100000 in
set_option maxHeartbeats 4000000 in
theorem small_any (A : Option Addr) (c : Nat) (l : List Nd) (w : World) (h : NR w w.heap.size A l) :
    Calls Try.prog 6 #[.slice A l.length c] w fun e w' => e = .returned (.bool (smallP l)) ∧ w = w' := by
  obtain ⟨r, hr⟩ : ∃ r, smallP l = r := ⟨_, rfl⟩
  rw [hr]
  replace hr := Lib.hid hr
  go_enter Try.func6, Try.ntmps6
  by_cases hs : 24 < l.length
  · have i1 : (24 : Int) < (l.length : Int) := by omega
    obtain rfl : r = false := by
      rw [← hr.out]
      cases e : smallP l with
      | false => rfl
      | true => have := (small_iff.1 e).1; omega
    clear hr h
    go_wp2
    go_ret
    exact ⟨rfl, rfl⟩
  · have i1 : ¬ (24 : Int) < (l.length : Int) := by omega
    replace h := Lib.hid h
    go_wp2
    go_loop [3] (fun v3 => ∃ k : Nat, k ≤ l.length ∧ v3 = .int .i64 (k : Int) ∧ Hid (∀ x ∈ l.take k, x.p.length ≤ 200 ∧ x.data.length ≤ 500)) (fun v3 => l.length - (intOf v3).toNat)
    case atStart => exact ⟨0, by omega, rfl, Lib.hid (by simp)⟩
    case round =>
      obtain ⟨k, hk, rfl, hq⟩ := hrel
      by_cases hkl : k < l.length
      · have ij : (k : Int) < (l.length : Int) := by omega
        have i0 : (0 : Int) ≤ (k : Int) := by omega
        have kw : IntKind.i64.wrap ((k : Int) + 1) = (k : Int) + 1 := IntWalk.i64_in _ (by omega)
        obtain ⟨ad, hA, hlt, e0, _, _, _, e4⟩ := h.out.at_ hkl
        subst hA
        have hbad : ¬ (l[k].p.length ≤ 200 ∧ l[k].data.length ≤ 500) → r = false := fun hn => by
          rw [← hr.out]
          cases e : smallP l with
          | false => rfl
          | true => exact absurd ((small_iff.1 e).2 _ (List.getElem_mem hkl)) hn
        have hnx : l[k].p.length ≤ 200 ∧ l[k].data.length ≤ 500 → ∀ x ∈ l.take (k + 1), x.p.length ≤ 200 ∧ x.data.length ≤ 500 := fun hn x hx => by
          rw [List.take_succ_eq_append_getElem hkl] at hx
          rcases List.mem_append.1 hx with hx | hx
          · exact hq.out x hx
          · obtain rfl : x = l[k] := by simpa using hx
            exact hn
        obtain ⟨x, hx⟩ : ∃ x, l[k] = x := ⟨_, rfl⟩
        rw [hx] at e0 e4 hbad hnx
        clear hq hx
        by_cases h1 : 200 < x.p.length
        · have j1 : (200 : Int) < (x.p.length : Int) := by omega
          obtain rfl := hbad (by omega)
          clear hbad hnx hr
          go_wp2
          go_ret
          exact ⟨rfl, rfl⟩
        · have j1 : ¬ (200 : Int) < (x.p.length : Int) := by omega
          by_cases h2 : 500 < x.data.length
          · have j2 : (500 : Int) < (x.data.length : Int) := by omega
            obtain rfl := hbad (by omega)
            clear hbad hnx hr
            go_wp2
            go_ret
            exact ⟨rfl, rfl⟩
          · have j2 : ¬ (500 : Int) < (x.data.length : Int) := by omega
            have hn := Lib.hid (hnx ⟨by omega, by omega⟩)
            clear hbad hnx
            go_wp2
            exact ⟨⟨k + 1, by omega, by go_num, hn⟩, by simp [intOf]; omega⟩
      · obtain rfl : k = l.length := by omega
        have hq2 := hq.out
        rw [List.take_length] at hq2
        obtain rfl : r = true := by rw [← hr.out]; exact small_iff.2 ⟨by omega, hq2⟩
        clear hq2 hq hr h
        go_wp2
        go_ret
        exact ⟨rfl, rfl⟩
/-! ### the example -/
def exA : List Nd := [⟨[97], 1, 0, 0, []⟩, ⟨[97, 47, 120], 2, 0, 0, [49]⟩, ⟨[98], 1, 0, 0, []⟩]
def exB : List Nd := [⟨[99], 1, 7, 0, []⟩, ⟨[99, 47, 120], 2, 0, 0, [49]⟩]
theorem exA_fit : Fit exA := ⟨by decide, by decide⟩
theorem exB_fit : Fit exB := ⟨by decide, by decide⟩
theorem exA_uniq : Uniq exA := ⟨by decide, by decide⟩
theorem exB_uniq : Uniq exB := ⟨by decide, by decide⟩
def exT : List UInt8 := [1, 120, 2] ++ Vint.sum (Mix.ofN 1 [49]).1 (Mix.ofN 1 [49]).2
theorem kid_textA : textP exA [97, 47, 120] = [49] := by decide +kernel
theorem kid_textB : textP exB [99, 47, 120] = [49] := by decide +kernel
theorem textA : textP exA [97] = exT := by
  rw [textP_dir (by decide +kernel), show kids exA [97] = [⟨[97, 47, 120], 2, 0, 0, [49]⟩] by decide +kernel]
  simp only [List.flatMap_cons, List.flatMap_nil, List.append_nil, entryP]
  rw [kid_textA, Mix.of_N (n := 1) (by decide)]
  decide +kernel
theorem textB : textP exB [99] = exT := by
  rw [textP_dir (by decide +kernel), show kids exB [99] = [⟨[99, 47, 120], 2, 0, 0, [49]⟩] by decide +kernel]
  simp only [List.flatMap_cons, List.flatMap_nil, List.append_nil, entryP]
  rw [kid_textB, Mix.of_N (n := 1) (by decide)]
  decide +kernel
theorem textC : textP exA [98] = [] := by
  rw [textP_dir (by decide +kernel), show kids exA [98] = [] by decide +kernel]
  rfl
theorem printA : printP exA [97] = some (Mix.of exT) := by rw [printP_some (.inr (by decide +kernel)), textA]
theorem printB : printP exB [99] = some (Mix.of exT) := by rw [printP_some (.inr (by decide +kernel)), textB]
theorem printC : printP exA [98] = some (Mix.of []) := by rw [printP_some (.inr (by decide +kernel)), textC]
theorem sums_ne : (Mix.of exT).1 ≠ (Mix.of []).1 := by
  rw [Mix.of_N (n := 19) (by decide +kernel), Mix.of_N (n := 0) (by decide)]
  decide +kernel
theorem like_ex : likeF exA exB 17 [97] [99] = true := by decide +kernel
end Tr
end Go.Proofs.Yteadcblmomngpaa
namespace Go.Proofs.Yteadcblmomngpaa
open Go Go.RowKit Go.Shelf W Pth
namespace Tr
theorem new_rows (w : World) (t : TypeId) (cs : Array Value) (sz n : Nat) (h : cs.toList.length = n * sz) : Reads (w.alloc (.cells cs t)) (w.heap.size + 1) sz (some ⟨w.heap.size, 0, none⟩) n cs.toList := by
  refine ⟨h, fun _ => ⟨_, rfl, Nat.lt_succ_self _, fun j u hu => ?_⟩⟩
  have ha : (⟨w.heap.size, 0, none⟩ : Addr).add j = ⟨w.heap.size, j, none⟩ := by unfold Addr.add; split <;> simp_all
  rw [ha, (Blk.new w t _).cell]
  simpa using hu
abbrev cA : Array Value := #[str [97], .int .i64 1, .int .i64 0, .int .i64 0, str [], str [97, 47, 120], .int .i64 2, .int .i64 0, .int .i64 0, str [49], str [98], .int .i64 1, .int .i64 0, .int .i64 0, str []]
abbrev cB : Array Value := #[str [99], .int .i64 1, .int .i64 7, .int .i64 0, str [], str [99, 47, 120], .int .i64 2, .int .i64 0, .int .i64 0, str [49]]
theorem nrA (w : World) (t : TypeId) : NR (w.alloc (.cells cA t)) (w.heap.size + 1) (some ⟨w.heap.size, 0, none⟩) exA := new_rows w t cA 5 3 rfl
theorem nrB (w : World) (t : TypeId) : NR (w.alloc (.cells cB t)) (w.heap.size + 1) (some ⟨w.heap.size, 0, none⟩) exB := new_rows w t cB 5 2 rfl
set_option maxRecDepth 100000 in
set_option maxHeartbeats 4000000 in
theorem awake_any (w : World) : Calls Try.prog 7 #[] w fun e w' => e = .returned (.bool true) ∧ Gr w w' := by
  have n1 := nrA w 34
  have g1 := (Gr.refl w).alloc (.cells cA 34)
  have n2 := nrB (w.alloc (.cells cA 34)) 34
  rw [World.size_alloc] at n2
  have gB := (Gr.refl (w.alloc (.cells cA 34))).alloc (.cells cB 34)
  have n1' := Lib.hid ((n1.below (gB.mono (by simp))).more (B' := ((w.alloc (.cells cA 34)).alloc (.cells cB 34)).heap.size) (by simp))
  have n2' := Lib.hid (n2.more (B' := ((w.alloc (.cells cA 34)).alloc (.cells cB 34)).heap.size) (by simp))
  have g2 := Lib.hid (Gr.trans g1 gB)
  have hpA : ∀ A w, NR w w.heap.size A exA → Calls Try.prog 11 #[.slice A 3 3, str [97]] w fun e w' => e = .returned (.tuple #[.agg (smA (Mix.of exT)), .bool true]) ∧ Gr w w' := fun A w h => by
    have := print_any A 3 exA exA_fit exA_uniq [97] w h
    rw [printA] at this
    exact this
  have hpB : ∀ A w, NR w w.heap.size A exB → Calls Try.prog 11 #[.slice A 2 2, str [99]] w fun e w' => e = .returned (.tuple #[.agg (smA (Mix.of exT)), .bool true]) ∧ Gr w w' := fun A w h => by
    have := print_any A 2 exB exB_fit exB_uniq [99] w h
    rw [printB] at this
    exact this
  have hpC : ∀ A w, NR w w.heap.size A exA → Calls Try.prog 11 #[.slice A 3 3, str [98]] w fun e w' => e = .returned (.tuple #[.agg (smA (Mix.of [])), .bool true]) ∧ Gr w w' := fun A w h => by
    have := print_any A 3 exA exA_fit exA_uniq [98] w h
    rw [printC] at this
    exact this
  have hli : ∀ A B w, NR w w.heap.size A exA → NR w w.heap.size B exB → Calls Try.prog 9 #[.slice A 3 3, str [97], .slice B 2 2, str [99]] w fun e w' => e = .returned (.bool true) ∧ Gr w w' := fun A B w h1 h2 => by
    have := like_any exA exB A B 3 2 exA_fit exB_fit 17 [97] [99] w (by omega) h1 h2
    rw [like_ex] at this
    exact this
  have hsn := sums_ne
  obtain ⟨X, hX⟩ : ∃ X, Mix.of exT = X := ⟨_, rfl⟩
  obtain ⟨Z, hZ⟩ : ∃ Z, Mix.of [] = Z := ⟨_, rfl⟩
  rw [hX] at hpA hpB hsn
  rw [hZ] at hpC hsn
  obtain ⟨xx, xy⟩ := X
  obtain ⟨zx, zy⟩ := Z
  have hne2 : ¬ n64 xx = n64 zx := fun h => hsn (UInt64.toNat_inj.1 (by have h' : ((xx.toNat : Nat) : Int) = ((zx.toNat : Nat) : Int) := h; show xx.toNat = zx.toNat; omega))
  have hne : (n64 xx == n64 zx) = false := by simpa using hne2
  clear hsn
  replace hpA := Lib.hid hpA
  replace hpB := Lib.hid hpB
  replace hpC := Lib.hid hpC
  replace hli := Lib.hid hli
  clear n1 n2 g1 gB hX hZ
  go_enter Try.func7, Try.ntmps7
  go_wp2_with fail
  go_at_call 11
  refine (hpA.out _ _ n1'.out).mono ?_
  rintro e w1 ⟨rfl, h1⟩
  have GG := Lib.hid (Gr.trans g2.out h1)
  have N1 := Lib.hid (n1'.out.on h1)
  have N2 := Lib.hid (n2'.out.on h1)
  have bn := Lib.hid (Blk.new w1 30 zS)
  clear h1 n1' n2' g2 hpA
  go_wp2_with (first
    | ((with_reducible refine wpList_isStore 30 (.tmp 3) (.tmp 19) rfl ?_); refine wpList_store_blk rfl 30 (.tmp 3) (.tmp 19) rfl w1.heap.size (smA (xx, xy)) rfl rfl 30 zS bn.out (sumInfo _ _) rfl (by simp [Value.oneCell']) ?_; intro w2 m k z; have b3 := Lib.hid m; have GG := Lib.hid (Gr.trans GG.out (Kb.new k)); have N1 := Lib.hid (N1.out.on (Kb.new k)); have N2 := Lib.hid (N2.out.on (Kb.new k));  clear m k z bn)
    | (go_at_call 11; fail))
  go_at_call 11
  refine (hpB.out _ _ N2.out).mono ?_
  rintro e w3 ⟨rfl, h1⟩
  have GG := Lib.hid (Gr.trans GG.out h1)
  have N1 := Lib.hid (N1.out.on h1)
  have N2 := Lib.hid (N2.out.on h1)
  have b3 := Lib.hid (blk_more b3.out h1)
  have bn := Lib.hid (Blk.new w3 30 zS)
  clear h1 hpB
  go_wp2_with (first
    | ((with_reducible refine wpList_isStore 30 (.tmp 5) (.tmp 24) rfl ?_); refine wpList_store_blk rfl 30 (.tmp 5) (.tmp 24) rfl w3.heap.size (smA (xx, xy)) rfl rfl 30 zS bn.out (sumInfo _ _) rfl (by simp [Value.oneCell']) ?_; intro w4 m k z; have b5 := Lib.hid m; have GG := Lib.hid (Gr.trans GG.out (Kb.new k)); have N1 := Lib.hid (N1.out.on (Kb.new k)); have N2 := Lib.hid (N2.out.on (Kb.new k)); have b3 := Lib.hid (blk_more b3.out (Kb.new k)); clear m k z bn)
    | (go_at_call 11; fail))
  go_at_call 11
  refine (hpC.out _ _ N1.out).mono ?_
  rintro e w5 ⟨rfl, h1⟩
  have GG := Lib.hid (Gr.trans GG.out h1)
  have N1 := Lib.hid (N1.out.on h1)
  have N2 := Lib.hid (N2.out.on h1)
  have b3 := Lib.hid (blk_more b3.out h1)
  have b5 := Lib.hid (blk_more b5.out h1)
  have bn := Lib.hid (Blk.new w5 30 zS)
  clear h1 hpC
  go_wp2_with (first
    | ((with_reducible refine wpList_isStore 30 (.tmp 7) (.tmp 29) rfl ?_); refine wpList_store_blk rfl 30 (.tmp 7) (.tmp 29) rfl w5.heap.size (smA (zx, zy)) rfl rfl 30 zS bn.out (sumInfo _ _) rfl (by simp [Value.oneCell']) ?_; intro w6 m k z; have b7 := Lib.hid m; have GG := Lib.hid (Gr.trans GG.out (Kb.new k)); have N1 := Lib.hid (N1.out.on (Kb.new k)); have N2 := Lib.hid (N2.out.on (Kb.new k)); have b3 := blk_more b3.out (Kb.new k); have b5 := blk_more b5.out (Kb.new k); have p0 := b3.cell 0; have p1 := b3.cell 1; have q0 := b5.cell 0; have q1 := b5.cell 1; have r0 := m.cell 0; have r1 := m.cell 1; clear m k z bn)
    | (go_at_call 9; fail))
  go_at_call 9
  refine (hli.out _ _ _ N1.out N2.out).mono ?_
  rintro e w7 ⟨rfl, h1⟩
  have GG := Lib.hid (Gr.trans GG.out h1)
  clear h1 hli p0 p1 q0 q1 r0 r1
  go_wp2
  go_ret
  exact ⟨rfl, GG.out⟩
end Tr
end Go.Proofs.Yteadcblmomngpaa
namespace Go.Proofs.Yteadcblmomngpaa
open Go Go.RowKit Go.Shelf W Pth
namespace Tr
theorem printV_is (F : Option Mix.St) : ∃ (a b : UInt64) (o : Bool), printV F = .tuple #[.agg (smA (a, b)), .bool o] ∧ (∀ S, F = some S → S = (a, b) ∧ o = true) ∧ (F = none → o = false) := by
  cases F with
  | none => exact ⟨0, 0, false, rfl, (fun S h => by cases h), (fun _ => rfl)⟩
  | some S => exact ⟨S.1, S.2, true, rfl, (fun T h => by cases h; exact ⟨rfl, rfl⟩), (fun h => by cases h)⟩
theorem sums_at {w : World} {B : Nat} {A : Option Addr} {l : List Mix.St} (h : Reads w B 2 A l.length (scs l)) {k : Nat} (hk : k < l.length) : ∃ ad, A = some ad ∧ ad.block < B ∧ w.cell? (ad.add (k * 2)) = some (.int .u64 (n64 (l[k]).1)) ∧ w.cell? ⟨(ad.add (k * 2)).block, (ad.add (k * 2)).off + 1, none⟩ = some (.int .u64 (n64 (l[k]).2)) := by
  obtain ⟨ad, h1, h2, h3, h4⟩ := Reads.row (f := sc) (ls := l) (fun _ => rfl) rfl h hk (by omega)
  exact ⟨ad, h1, h2, h3 _ rfl, h4 1 _ (by omega) (by omega) rfl⟩
set_option maxRecDepth 100000 in
set_option maxHeartbeats 8000000 in
theorem prints_walk (A : Option Addr) (c : Nat) (l : List Nd) (s : List UInt8) (w : World) (hr : NR w w.heap.size A l) :
    Calls Try.prog 5 #[.slice A l.length c, str s] w (Ret (eqv (.bool true)) w) := by
  have hsm := Lib.hid (small_any A c l w hr)
  have haw := Lib.hid (fun w => awake_any w)
  by_cases hsp : smallP l = true
  · rw [hsp] at hsm
    by_cases hsl : 200 < s.length
    · have i1 : (200 : Int) < (s.length : Int) := by omega
      clear hsp
      go_enter Try.func5, Try.ntmps5
      go_wp2_with fail
      go_at_call 6
      refine hsm.out.mono ?_
      rintro e w1 ⟨rfl, rfl⟩
      clear hsm
      go_wp2_with fail
      go_at_call 7
      refine (haw.out _).mono ?_
      rintro e w2 ⟨rfl, g2⟩
      replace g2 := Lib.hid g2
      clear haw
      go_wp2
      go_ret
      exact ⟨_, rfl, rfl, g2.out⟩
    · have i1 : ¬ (200 : Int) < (s.length : Int) := by omega
      have hf := small_fit hsp
      have hto := Lib.hid (refOf_any A c l w hr hf)
      have hfT : Fit (of l) := hf.of_mem (fun x hx => sorted_mem _ x (taken_mem _ x hx)) (Nat.le_trans (taken_len _) (sorted_len _))
      have huT := of_uniq l
      clear hsp hr
      go_enter Try.func5, Try.ntmps5
      go_wp2_with fail
      go_at_call 6
      refine hsm.out.mono ?_
      rintro e w1 ⟨rfl, rfl⟩
      clear hsm
      go_wp2_with fail
      go_at_call 8
      refine hto.out.mono ?_
      rintro e w1 ⟨AT, cT, rfl, oT, g1⟩
      have nT := Lib.hid (ON.nr oT)
      have GG := Lib.hid g1
      clear hto oT g1
      generalize of l = T at *
      have hT1 := hfT.1
      have hp1 := Lib.hid (fun w h => print_any AT cT T hfT huT s w h)
      have hp2 := Lib.hid (fun w h => refPrint_any AT cT T hfT s w h)
      have hp3 := Lib.hid (fun k (hk : k < T.length) w h => refPrint_any AT cT T hfT T[k].p w h)
      have hal := Lib.hid (fun w h => all_any AT cT T hfT huT w h)
      obtain ⟨pa, pb, po, hpv, _, _⟩ := printV_is (printP T s)
      rw [hpv] at hp1 hp2
      have hZl : (prints T).length = T.length := by simp [prints]
      have hpk : ∀ k (hk : k < T.length), ∃ S, printP T T[k].p = some S ∧ (prints T)[k]? = some S := fun k hk => by
        refine ⟨_, printP_some (.inr (by rw [huT.find_ (List.getElem_mem hk)]; simp)), ?_⟩
        simp [prints, hk]
      obtain ⟨Zs, hZs⟩ : ∃ Zs, prints T = Zs := ⟨_, rfl⟩
      simp only [hZs] at hpk hZl hal
      replace hpk := Lib.hid hpk
      replace hfT := Lib.hid hfT
      clear hpv huT hZs
      go_wp2_with fail
      go_at_call 11
      refine (hp1.out _ nT.out).mono ?_
      rintro e w2 ⟨rfl, g2⟩
      have GG := Lib.hid (Gr.trans GG.out g2)
      have nT := Lib.hid (nT.out.on g2)
      have bn := Lib.hid (Blk.new w2 30 zS)
      clear g2 hp1
      go_wp2_with (first
        | ((with_reducible refine wpList_isStore 30 (.tmp 6) (.tmp 29) rfl ?_); refine wpList_store_blk rfl 30 (.tmp 6) (.tmp 29) rfl w2.heap.size (smA (pa, pb)) rfl rfl 30 zS bn.out (sumInfo _ _) rfl (by simp [Value.oneCell']) ?_; intro w3 m k z; have b6 := Lib.hid m; have GG := Lib.hid (Gr.trans GG.out (Kb.new k)); have nT := Lib.hid (nT.out.on (Kb.new k)); clear m k z bn)
        | (go_at_call 15; fail))
      go_at_call 15
      refine (hp2.out _ nT.out).mono ?_
      rintro e w4 ⟨rfl, g2⟩
      have GG := Lib.hid (Gr.trans GG.out g2)
      have nT := Lib.hid (nT.out.on g2)
      have b6 := Lib.hid (blk_more b6.out g2)
      have bn := Lib.hid (Blk.new w4 30 zS)
      clear g2 hp2
      go_wp2_with (first
        | ((with_reducible refine wpList_isStore 30 (.tmp 8) (.tmp 35) rfl ?_); refine wpList_store_blk rfl 30 (.tmp 8) (.tmp 35) rfl w4.heap.size (smA (pa, pb)) rfl rfl 30 zS bn.out (sumInfo _ _) rfl (by simp [Value.oneCell']) ?_; intro w5 m k z; have GG := Lib.hid (Gr.trans GG.out (Kb.new k)); have nT := Lib.hid (nT.out.on (Kb.new k)); have b6 := blk_more b6.out (Kb.new k); have x0 := b6.cell 0; have x1 := b6.cell 1; have y0 := m.cell 0; have y1 := m.cell 1; clear m k z bn b6)
        | (go_at_call 16; fail))
      go_at_call 16
      refine (hal.out _ nT.out).mono ?_
      rintro e w6 ⟨AA, cA, rfl, oA, g2⟩
      rw [hZl]
      have hO : Reads w6 w6.heap.size 2 AA Zs.length (scs Zs) := OR.reads oA
      have GG := Lib.hid (Gr.trans GG.out g2)
      have nT := Lib.hid (nT.out.on g2)
      replace hO := Lib.hid hO
      have hZ2 := hZl
      clear g2 hal oA x0 x1 y0 y1
      go_wp2
      go_loopw [11, 12, 13] (fun v11 _ _ wr => ∃ k : Nat, k ≤ T.length ∧ v11 = .int .i64 (k : Int) ∧ Hid (Gr w6 wr)) (fun v11 _ _ _ => T.length - (intOf v11).toNat)
      case atStart => exact ⟨0, by omega, rfl, Lib.hid (Gr.refl _)⟩
      case round =>
        obtain ⟨k, hk, rfl, hst⟩ := hrel
        by_cases hkl : k < T.length
        · have ij : (k : Int) < (T.length : Int) := by omega
          have ik : (0 : Int) ≤ (k : Int) := by omega
          have kw : IntKind.i64.wrap ((k : Int) + 1) = (k : Int) + 1 := IntWalk.i64_in _ (by omega)
          have nr := Lib.hid (nT.out.on hst.out)
          obtain ⟨ad, rfl, hlt, e0, e1, e2, e3, e4⟩ := nr.out.at_ hkl
          obtain ⟨S, hS1, hS2⟩ := hpk.out k hkl
          have hkz : k < Zs.length := by omega
          have hSk : Zs[k] = S := by rw [List.getElem?_eq_getElem hkz] at hS2; exact Option.some.inj hS2
          obtain ⟨ada, rfl, hla, s0, s1⟩ := sums_at hO.out hkz
          rw [hSk] at s0 s1
          have hrp := Lib.hid (hp3.out k hkl _ nr.out)
          have hxf := hfT.out.2 _ (List.getElem_mem hkl)
          obtain ⟨x, hx⟩ : ∃ x, T[k] = x := ⟨_, rfl⟩
          rw [hx] at e0 e1 e2 e3 e4 hS1 hrp hxf
          rw [hS1] at hrp
          obtain ⟨sx, sy⟩ := S
          have hrp2 : Hid (Calls Try.prog 15 #[.slice (some ad) T.length cT, str x.p] wr fun e w' => e = .returned (.tuple #[.agg (smA (sx, sy)), .bool true]) ∧ Gr wr w') := hrp
          have hda := fun w => data_any x w hxf.2
          have hdb : ∀ w, Calls Try.prog 18 #[str x.data] w fun e w' => e = .returned (.agg (smA (Mix.of x.data))) ∧ Gr w w' := fun w => Mix.refOf_any x.data w (by omega)
          obtain ⟨D, hD⟩ : ∃ D, Mix.of x.data = D := ⟨_, rfl⟩
          rw [hD] at hda hdb
          obtain ⟨dx, dy⟩ := D
          replace hda := Lib.hid hda
          replace hdb := Lib.hid hdb
          have gz := hst.out
          have sz := Below.size gz
          have s0 := (gz.cell (p := ada.add (k * 2)) (by rw [block_of_add]; exact hla)).trans s0
          have s1 := (gz.cell (p := ⟨(ada.add (k * 2)).block, (ada.add (k * 2)).off + 1, none⟩) (by show (ada.add (k * 2)).block < _; rw [block_of_add]; exact hla)).trans s1
          have lad : (ad.add (k * 5)).block < wr.heap.size := by rw [block_of_add]; exact hlt
          have laa : (ada.add (k * 2)).block < wr.heap.size := by rw [block_of_add]; omega
          replace gz := Lib.hid gz
          clear hst hx hS1 hS2 hSk hrp hxf hD hlt hla
          go_wp2_with fail
          go_at_call 15
          refine hrp2.out.mono ?_
          rintro e w7 ⟨rfl, g7⟩
          have bn := Lib.hid (Blk.new w7 30 zS)
          replace g7 := Lib.hid g7
          clear hrp2
          go_wp2_with (first
            | ((with_reducible refine wpList_isStore 30 (.tmp 12) (.tmp 61) rfl ?_); refine wpList_store_blk rfl 30 (.tmp 12) (.tmp 61) rfl w7.heap.size (smA (sx, sy)) rfl rfl 30 zS bn.out (sumInfo _ _) rfl (by simp [Value.oneCell']) ?_; intro w8 m kb z; have b12 := Lib.hid m; have g8 := Lib.hid (Gr.trans g7.out (Kb.new kb)); clear m kb z bn g7))
          have gW := g8.out
          have e0' := (gW.cell (p := ad.add (k * 5)) lad).trans e0
          have e1' := (gW.cell (p := ⟨(ad.add (k * 5)).block, (ad.add (k * 5)).off + 1, none⟩) lad).trans e1
          have e2' := (gW.cell (p := ⟨(ad.add (k * 5)).block, (ad.add (k * 5)).off + 2, none⟩) lad).trans e2
          have e3' := (gW.cell (p := ⟨(ad.add (k * 5)).block, (ad.add (k * 5)).off + 3, none⟩) lad).trans e3
          have e4' := (gW.cell (p := ⟨(ad.add (k * 5)).block, (ad.add (k * 5)).off + 4, none⟩) lad).trans e4
          have s0' := (gW.cell (p := ada.add (k * 2)) laa).trans s0
          have s1' := (gW.cell (p := ⟨(ada.add (k * 2)).block, (ada.add (k * 2)).off + 1, none⟩) laa).trans s1
          have lad8 := Nat.lt_of_lt_of_le lad gW.size
          have laa8 := Nat.lt_of_lt_of_le laa gW.size
          clear e0 e1 e2 e3 e4 s0 s1 gW
          refine region_grow rfl (by kernel_rfl) ?_
          refine GW.mv rfl trivial (.inl rfl) (kn0 (t := 11) (c := .int .i64 (k : Int)) (by kernel_rfl) rfl) (eqv_lasts _) ?_
          refine GW.mv rfl trivial (.inl rfl) (kn0 (t := 10) (c := .slice (some ada) T.length cA) (by kernel_rfl) rfl) (eqv_lasts _) ?_
          refine GW.lenV rfl trivial rfl Try.underlying41 (kn (t := 64) (j := 1) (by kernel_rfl)) ?_
          refine GW.bin (.bool false) rfl trivial rfl (kn (t := 63) (j := 0) (by kernel_rfl)) (kn (t := 65) (j := 2) (by kernel_rfl)) (fun w' => by simp [go_sem]; omega) ?_
          refine GW.mv rfl trivial (.inl rfl) (kn (t := 66) (j := 3) (by kernel_rfl)) (eqv_lasts _) ?_
          refine GW.mv rfl ⟨67, by kernel_rfl, by kernel_rfl, fun _ _ h => h⟩ (.inl rfl) (kn0 (t := 10) (c := .slice (some ada) T.length cA) (by kernel_rfl) rfl) (eqv_lasts _) ?_
          refine GW.mv rfl ⟨67, by kernel_rfl, by kernel_rfl, fun _ _ h => h⟩ (.inl rfl) (kn0 (t := 11) (c := .int .i64 (k : Int)) (by kernel_rfl) rfl) (eqv_lasts _) ?_
          refine GW.p2 (.pointer (some (ada.add (k * 2)))) rfl ⟨67, by kernel_rfl, by kernel_rfl, fun _ _ h => h⟩ (kn (t := 68) (j := 5) (by kernel_rfl)) (kn (t := 69) (j := 6) (by kernel_rfl)) (fun ρ w' h1 h2 hg => by show ((Instr.indexAt 41 (ρ (.tmp 68)) (ρ (.tmp 69)) >>= fun v => pure (Next.value v)) : Sem Next).run Try.prog w' = _; rw [h1, h2, Sem.run_bind, run_idxR w' Try.underlying41 (size := 2) (by kernel_rfl) ada _ _ k hkl]; simp) ?_
          refine GW.p1 (.agg #[.int .u64 (n64 sx), .int .u64 (n64 sy)]) rfl ⟨67, by kernel_rfl, by kernel_rfl, fun _ _ h => h⟩ (kn (t := 70) (j := 7) (by kernel_rfl)) (fun ρ w' hρ hg => by simp [execOp, hρ, go_sem, (hg.cell (p := (ada.add (k * 2))) laa8).trans s0', (hg.cell (p := ⟨(ada.add (k * 2)).block, (ada.add (k * 2)).off + 1, none⟩) laa8).trans s1']) ?_
          refine GW.p1 (.agg #[.int .u64 (n64 sx), .int .u64 (n64 sy)]) rfl ⟨67, by kernel_rfl, by kernel_rfl, fun _ _ h => h⟩ (kn0 (t := 12) (c := .pointer (some ⟨w7.heap.size, 0, none⟩)) (by kernel_rfl) rfl) (fun ρ w' hρ hg => by simp [execOp, hρ, go_sem, (hg.cell (p := ⟨w7.heap.size, 0, none⟩) b12.out.lt).trans (b12.out.cell 0), (hg.cell (p := ⟨w7.heap.size, 1, none⟩) b12.out.lt).trans (b12.out.cell 1)]) ?_
          refine GW.bin (.bool false) rfl ⟨67, by kernel_rfl, by kernel_rfl, fun _ _ h => h⟩ rfl (kn (t := 71) (j := 8) (by kernel_rfl)) (kn (t := 72) (j := 9) (by kernel_rfl)) (fun w' => by simp [go_sem]) ?_
          refine GW.pick (b := false) rfl trivial rfl (kn (t := 67) (j := 4) (by kernel_rfl)) (kn (t := 73) (j := 10) (by kernel_rfl)) (eqv_lasts _) ?_
          refine GW.mv rfl trivial (.inl rfl) (kn (t := 74) (j := 11) (by kernel_rfl)) (eqv_lasts _) ?_
          refine GW.mv rfl ⟨75, by kernel_rfl, by kernel_rfl, fun _ _ h => h⟩ (.inl rfl) (kn0 (t := 5) (c := .slice (some ad) T.length cT) (by kernel_rfl) rfl) (eqv_lasts _) ?_
          refine GW.mv rfl ⟨75, by kernel_rfl, by kernel_rfl, fun _ _ h => h⟩ (.inl rfl) (kn0 (t := 11) (c := .int .i64 (k : Int)) (by kernel_rfl) rfl) (eqv_lasts _) ?_
          refine GW.p2 (.pointer (some (ad.add (k * 5)))) rfl ⟨75, by kernel_rfl, by kernel_rfl, fun _ _ h => h⟩ (kn (t := 76) (j := 13) (by kernel_rfl)) (kn (t := 77) (j := 14) (by kernel_rfl)) (fun ρ w' h1 h2 hg => by show ((Instr.indexAt 22 (ρ (.tmp 76)) (ρ (.tmp 77)) >>= fun v => pure (Next.value v)) : Sem Next).run Try.prog w' = _; rw [h1, h2, Sem.run_bind, run_idxR w' Try.underlying22 (size := 5) (by kernel_rfl) ad _ _ k hkl]; simp) ?_
          refine GW.p1 (.agg #[str x.p, .int .i64 x.kind, .int .i64 x.mode, .int .i64 x.time, str x.data]) rfl ⟨75, by kernel_rfl, by kernel_rfl, fun _ _ h => h⟩ (kn (t := 78) (j := 15) (by kernel_rfl)) (fun ρ w' hρ hg => by simp [execOp, hρ, go_sem, (hg.cell (p := (ad.add (k * 5))) lad8).trans e0', (hg.cell (p := ⟨(ad.add (k * 5)).block, (ad.add (k * 5)).off + 1, none⟩) lad8).trans e1', (hg.cell (p := ⟨(ad.add (k * 5)).block, (ad.add (k * 5)).off + 2, none⟩) lad8).trans e2', (hg.cell (p := ⟨(ad.add (k * 5)).block, (ad.add (k * 5)).off + 3, none⟩) lad8).trans e3', (hg.cell (p := ⟨(ad.add (k * 5)).block, (ad.add (k * 5)).off + 4, none⟩) lad8).trans e4']) ?_
          refine GW.call1 (eqv (.agg (smA (dx, dy)))) rfl ⟨75, by kernel_rfl, by kernel_rfl, fun _ _ h => h⟩ rfl Try.func17 (by kernel_rfl) (by kernel_rfl) (eqv_lasts _) (kn (t := 79) (j := 16) (by kernel_rfl)) (fun v w' hg hv => ?_) ?_
          · obtain rfl : v = _ := hv
            refine (hda.out w').mono ?_
            rintro e w9 ⟨rfl, hg9⟩
            exact ⟨_, rfl, rfl, hg9⟩
          refine GW.mv rfl ⟨75, by kernel_rfl, by kernel_rfl, fun _ _ h => h⟩ (.inl rfl) (kn0 (t := 5) (c := .slice (some ad) T.length cT) (by kernel_rfl) rfl) (eqv_lasts _) ?_
          refine GW.mv rfl ⟨75, by kernel_rfl, by kernel_rfl, fun _ _ h => h⟩ (.inl rfl) (kn0 (t := 11) (c := .int .i64 (k : Int)) (by kernel_rfl) rfl) (eqv_lasts _) ?_
          refine GW.p2 (.pointer (some (ad.add (k * 5)))) rfl ⟨75, by kernel_rfl, by kernel_rfl, fun _ _ h => h⟩ (kn (t := 81) (j := 18) (by kernel_rfl)) (kn (t := 82) (j := 19) (by kernel_rfl)) (fun ρ w' h1 h2 hg => by show ((Instr.indexAt 22 (ρ (.tmp 81)) (ρ (.tmp 82)) >>= fun v => pure (Next.value v)) : Sem Next).run Try.prog w' = _; rw [h1, h2, Sem.run_bind, run_idxR w' Try.underlying22 (size := 5) (by kernel_rfl) ad _ _ k hkl]; simp) ?_
          refine GW.p1 (.pointer (some ⟨(ad.add (k * 5)).block, (ad.add (k * 5)).off + 4, none⟩)) rfl ⟨75, by kernel_rfl, by kernel_rfl, fun _ _ h => h⟩ (kn (t := 83) (j := 20) (by kernel_rfl)) (fun ρ w' hρ hg => by simp [execOp, hρ, go_sem]) ?_
          refine GW.p1 (str x.data) rfl ⟨75, by kernel_rfl, by kernel_rfl, fun _ _ h => h⟩ (kn (t := 84) (j := 21) (by kernel_rfl)) (fun ρ w' hρ hg => by simp [execOp, hρ, go_sem, (hg.cell (p := ⟨(ad.add (k * 5)).block, (ad.add (k * 5)).off + 4, none⟩) lad8).trans e4']) ?_
          refine GW.call1 (eqv (.agg (smA (dx, dy)))) rfl ⟨75, by kernel_rfl, by kernel_rfl, fun _ _ h => h⟩ rfl Try.func18 (by kernel_rfl) (by kernel_rfl) (eqv_lasts _) (kn (t := 85) (j := 22) (by kernel_rfl)) (fun v w' hg hv => ?_) ?_
          · obtain rfl : v = _ := hv
            refine (hdb.out w').mono ?_
            rintro e w9 ⟨rfl, hg9⟩
            exact ⟨_, rfl, rfl, hg9⟩
          refine GW.bin (.bool false) rfl ⟨75, by kernel_rfl, by kernel_rfl, fun _ _ h => h⟩ rfl (kn (t := 80) (j := 17) (by kernel_rfl)) (kn (t := 86) (j := 23) (by kernel_rfl)) (fun w' => by simp [go_sem]) ?_
          refine GW.pick (b := false) rfl trivial rfl (kn (t := 75) (j := 12) (by kernel_rfl)) (kn (t := 87) (j := 24) (by kernel_rfl)) (eqv_lasts _) ?_
          refine GW.done (by simp) (by kernel_rfl) (fun w' hg => ?_)
          rintro v0 - v1 - v2 - v3 - v4 - v5 - v6 - v7 - v8 - v9 - v10 - v11 - v12 - v13 - v14 - v15 - v16 - v17 - v18 - v19 - v20 - v21 - v22 - v23 - v24 - v25 h25
          obtain rfl : v25 = (.bool false) := h25
          simp only [GFin, Act.put, List.setIfInBounds_toArray, List.set_cons_succ, List.set_cons_zero]
          have gN := Lib.hid (Gr.trans gz.out (Gr.trans g8.out hg))
          clear hg g8 gz e0' e1' e2' e3' e4' s0' s1' b12 hda hdb
          go_wp2
          exact ⟨⟨k + 1, by omega, by go_num, gN⟩, by simp [intOf]; omega⟩
        · obtain rfl : k = T.length := by omega
          have GG := Lib.hid (Gr.trans GG.out hst.out)
          clear hst hp3 hpk
          go_wp2_with fail
          go_at_call 7
          refine (haw.out _).mono ?_
          rintro e w9 ⟨rfl, g2⟩
          have GG := Lib.hid (Gr.trans GG.out g2)
          clear g2 haw
          go_wp2
          go_ret
          exact ⟨_, rfl, rfl, GG.out⟩
  · have hsf : smallP l = false := by simpa using hsp
    rw [hsf] at hsm
    clear hsp hsf hr
    go_enter Try.func5, Try.ntmps5
    go_wp2_with fail
    go_at_call 6
    refine hsm.out.mono ?_
    rintro e w1 ⟨rfl, rfl⟩
    clear hsm
    go_wp2_with fail
    go_at_call 7
    refine (haw.out _).mono ?_
    rintro e w2 ⟨rfl, g2⟩
    replace g2 := Lib.hid g2
    clear haw
    go_wp2
    go_ret
    exact ⟨_, rfl, rfl, g2.out⟩
end Tr
end Go.Proofs.Yteadcblmomngpaa
namespace Go.Proofs.Yteadcblmomngpaa
open Go Go.RowKit Go.Shelf W Pth
namespace Tr
theorem printV_mk (o : Option Mix.St) : ∃ s1 s2, printV o = .tuple #[.agg (smA (s1, s2)), .bool o.isSome] ∧ ∀ s, o = some s → s = (s1, s2) := by
  cases o with
  | none => exact ⟨0, 0, rfl, fun s h => by cases h⟩
  | some s => exact ⟨s.1, s.2, rfl, fun t h => by obtain rfl := Option.some.inj h; rfl⟩
theorem of_fit {l : List Nd} (hf : Fit l) : Fit (of l) := hf.of_mem (fun x hx => sorted_mem _ x (taken_mem _ x hx)) (Nat.le_trans (taken_len _) (sorted_len _))
theorem at_kind {T : List Nd} (hu : Uniq T) {p : List UInt8} {X : Nd} (h : atP T p = some X) : (atI T p = -1 ∧ X.kind = 1) ∨ ∃ i, ∃ hi : i < T.length, atI T p = (i : Int) ∧ T[i] = X := by
  by_cases hp : p = []
  · subst hp
    obtain rfl : root = X := Option.some.inj h
    cases ea : at_ T [] with
    | none => exact .inl ⟨by unfold atI; rw [ea], rfl⟩
    | some i =>
      obtain ⟨hi, h1, _⟩ := at_some ea
      exact absurd h1 (hu.2 _ (List.getElem_mem hi))
  · rw [atP_at hp] at h
    cases ea : at_ T p with
    | none => rw [(at_none ea).2] at h; cases h
    | some i =>
      obtain ⟨hi, h1, h2⟩ := at_some ea
      rw [h] at h2
      exact .inr ⟨i, hi, by unfold atI; rw [ea], (Option.some.inj h2).symm⟩
set_option maxRecDepth 100000 in
set_option maxHeartbeats 32000000 in
theorem likes_walk (A B : Option Addr) (c c2 : Nat) (l m : List Nd) (p q : List UInt8) (w : World) (hra : NR w w.heap.size A l) (hrb : NR w w.heap.size B m) :
    Calls Try.prog 3 #[.slice A l.length c, .slice B m.length c2, .agg #[str p, str q]] w (Ret (eqv (.bool true)) w) := by
  have haw := Lib.hid (fun w => awake_any w)
  have b0 := Blk.new w 23 #[str p, str q]
  have g0 := (Gr.refl w).alloc (.cells #[str p, str q] 23)
  have hra0 := hra.on g0
  have hrb0 := hrb.on g0
  have hsm1 := Lib.hid (small_any A c l _ hra0)
  have hsm2 := Lib.hid (small_any B c2 m _ hrb0)
  have d0 := b0.cell 0
  have d1 := b0.cell 1
  replace b0 := Lib.hid b0
  replace g0 := Lib.hid g0
  go_enter Try.func3, Try.ntmps3
  by_cases hsl : smallP l = true
  · rw [hsl] at hsm1
    by_cases hsm : smallP m = true
    · rw [hsm] at hsm2
      by_cases hp2 : 200 < p.length
      · have i1 : (200 : Int) < (p.length : Int) := by omega
        clear hsl hsm hra hrb hra0 hrb0
        go_wp2_with fail
        go_at_call 6
        refine hsm1.out.mono ?_
        rintro e w1 ⟨rfl, rfl⟩
        go_wp2_with fail
        go_at_call 6
        refine hsm2.out.mono ?_
        rintro e w1 ⟨rfl, rfl⟩
        clear hsm1 hsm2
        go_wp2_with fail
        go_at_call 7
        refine (haw.out _).mono ?_
        rintro e w2 ⟨rfl, g2⟩
        have G2 := Lib.hid (Gr.trans g0.out g2)
        clear haw g2 g0 b0
        go_wp2
        go_ret
        exact ⟨_, rfl, rfl, G2.out⟩
      · have i1 : ¬ (200 : Int) < (p.length : Int) := by omega
        by_cases hq2 : 200 < q.length
        · have i2 : (200 : Int) < (q.length : Int) := by omega
          clear hsl hsm hra hrb hra0 hrb0
          go_wp2_with fail
          go_at_call 6
          refine hsm1.out.mono ?_
          rintro e w1 ⟨rfl, rfl⟩
          go_wp2_with fail
          go_at_call 6
          refine hsm2.out.mono ?_
          rintro e w1 ⟨rfl, rfl⟩
          clear hsm1 hsm2
          go_wp2_with fail
          go_at_call 7
          refine (haw.out _).mono ?_
          rintro e w2 ⟨rfl, g2⟩
          have G2 := Lib.hid (Gr.trans g0.out g2)
          clear haw g2 g0 b0
          go_wp2
          go_ret
          exact ⟨_, rfl, rfl, G2.out⟩
        · have i2 : ¬ (200 : Int) < (q.length : Int) := by omega
          have hfT := of_fit (small_fit hsl)
          have hfU := of_fit (small_fit hsm)
          have hto := Lib.hid (refOf_any A c l _ hra0 (small_fit hsl))
          have hto2 := Lib.hid (fun w h => refOf_any B c2 m w h (small_fit hsm))
          have huT := of_uniq l
          have htT := of_tree l
          have huU := of_uniq m
          have htU := of_tree m
          replace hrb0 := Lib.hid hrb0
          clear hsl hsm hra hrb hra0
          go_wp2_with fail
          go_at_call 6
          refine hsm1.out.mono ?_
          rintro e w1 ⟨rfl, rfl⟩
          go_wp2_with fail
          go_at_call 6
          refine hsm2.out.mono ?_
          rintro e w1 ⟨rfl, rfl⟩
          clear hsm1 hsm2
          go_wp2_with fail
          go_at_call 8
          refine hto.out.mono ?_
          rintro e w1 ⟨AT, cT, rfl, oT, g1⟩
          replace nT := Lib.hid (ON.nr oT)
          have nB := Lib.hid (hrb0.out.on g1)
          replace GG := Lib.hid (Gr.trans g0.out g1)
          replace b5 := blk_more b0.out g1
          replace d0 := b5.cell 0
          replace d1 := b5.cell 1
          replace b5 := Lib.hid b5
          clear hto oT g1 b0 g0 hrb0
          go_wp2_with fail
          go_at_call 8
          refine (hto2.out _ nB.out).mono ?_
          rintro e w2 ⟨AU, cU, rfl, oU, g1⟩
          replace nU := Lib.hid (ON.nr oU)
          replace nT := Lib.hid (nT.out.on g1)
          replace GG := Lib.hid (Gr.trans GG.out g1)
          replace b5 := blk_more b5.out g1
          replace d0 := b5.cell 0
          replace d1 := b5.cell 1
          replace b5 := Lib.hid b5
          clear hto2 oU g1 nB
          generalize of l = T at *
          generalize of m = U at *
          have hlr := like_ref htT htU p q
          have hlk := fun w h1 h2 => like_any T U AT AU cT cU hfT hfU 17 p q w (by omega) h1 h2
          have hrl := fun w h1 h2 => refLike_any T U AT AU cT cU hfT hfU p q w (by omega) (by omega) h1 h2
          rw [← hlr] at hrl
          have hl1 : atP T p = none → likeF T U 17 p q = false := fun h => like_none1 h
          have hl2 : atP U q = none → likeF T U 17 p q = false := fun h => like_none2 h
          have hl3 := like_text huT huU 17 p q
          have hl4 := fun X Y => unlike_clash htT htU 17 p q X Y (by omega)
          obtain ⟨r, hr⟩ : ∃ r, likeF T U 17 p q = r := ⟨_, rfl⟩
          rw [hr] at hlk hrl hl1 hl2 hl3 hl4
          have hp1 := fun w h => print_any AT cT T hfT huT p w h
          have hpr2 := fun w h => print_any AU cU U hfU huU q w h
          rw [atP_print] at hp1 hpr2
          obtain ⟨s1, s2, hsv, hss⟩ := printV_mk ((atP T p).map fun _ => Mix.of (textP T p))
          obtain ⟨t1, t2, htv, htt⟩ := printV_mk ((atP U q).map fun _ => Mix.of (textP U q))
          rw [hsv, Option.isSome_map] at hp1
          rw [htv, Option.isSome_map] at hpr2
          have hat1 := fun w h => refAt_any AT cT T.length T p w w.heap.size rfl h (by have := hfT.1; omega)
          have hat2 := fun w h => refAt_any AU cU U.length U q w w.heap.size rfl h (by have := hfU.1; omega)
          have hrr : (r != r) = false := by simp
          replace hlk := Lib.hid hlk
          replace hrl := Lib.hid hrl
          replace hp1 := Lib.hid hp1
          replace hpr2 := Lib.hid hpr2
          replace hat1 := Lib.hid hat1
          replace hat2 := Lib.hid hat2
          replace hl1 := Lib.hid hl1
          replace hl2 := Lib.hid hl2
          replace hl3 := Lib.hid hl3
          replace hl4 := Lib.hid hl4
          replace hss := Lib.hid hss
          replace htt := Lib.hid htt
          clear hlr hr hsv htv htT htU
          go_wp2_with fail
          go_at_call 9
          refine (hlk.out _ nT.out nU.out).mono ?_
          rintro e w3 ⟨rfl, g1⟩
          replace GG := Lib.hid (Gr.trans GG.out g1)
          replace nT := Lib.hid (nT.out.on g1)
          replace nU := Lib.hid (nU.out.on g1)
          replace b5 := blk_more b5.out g1
          replace d0 := b5.cell 0
          replace d1 := b5.cell 1
          replace b5 := Lib.hid b5
          clear hlk g1
          go_wp2_with fail
          go_at_call 10
          refine (hrl.out _ nT.out nU.out).mono ?_
          rintro e w3 ⟨rfl, g1⟩
          replace GG := Lib.hid (Gr.trans GG.out g1)
          replace nT := Lib.hid (nT.out.on g1)
          replace nU := Lib.hid (nU.out.on g1)
          replace b5 := blk_more b5.out g1
          replace d0 := b5.cell 0
          replace d1 := b5.cell 1
          replace b5 := Lib.hid b5
          clear hrl g1
          go_wp2_with fail
          go_at_call 11
          refine (hp1.out _ nT.out).mono ?_
          rintro e w4 ⟨rfl, g1⟩
          replace GG := Lib.hid (Gr.trans GG.out g1)
          replace nT := Lib.hid (nT.out.on g1)
          replace nU := Lib.hid (nU.out.on g1)
          replace b5 := blk_more b5.out g1
          replace d0 := b5.cell 0
          replace d1 := b5.cell 1
          replace b5 := Lib.hid b5
          replace bn := Lib.hid (Blk.new w4 30 zS)
          clear hp1 g1 hrr
          go_wp2_with (first
            | ((with_reducible refine wpList_isStore 30 (.tmp 10) (.tmp 64) rfl ?_); refine wpList_store_blk rfl 30 (.tmp 10) (.tmp 64) rfl w4.heap.size (smA (s1, s2)) rfl rfl 30 zS bn.out (sumInfo _ _) rfl (by simp [Value.oneCell']) ?_; intro w5 m k z; replace GG := Lib.hid (Gr.trans GG.out (Kb.new k)); replace nT := Lib.hid (nT.out.on (Kb.new k)); replace nU := Lib.hid (nU.out.on (Kb.new k)); replace b5 := blk_more b5.out (Kb.new k); replace d0 := b5.cell 0; replace d1 := b5.cell 1; replace b5 := Lib.hid b5; have b10 := Lib.hid m; clear m k z bn)
            | (go_at_call 11; fail))
          go_at_call 11
          refine (hpr2.out _ nU.out).mono ?_
          rintro e w6 ⟨rfl, g1⟩
          replace GG := Lib.hid (Gr.trans GG.out g1)
          replace nT := Lib.hid (nT.out.on g1)
          replace nU := Lib.hid (nU.out.on g1)
          replace b5 := blk_more b5.out g1
          replace d0 := b5.cell 0
          replace d1 := b5.cell 1
          replace b5 := Lib.hid b5
          replace b10 := Lib.hid (blk_more b10.out g1)
          replace bn := Lib.hid (Blk.new w6 30 zS)
          clear hpr2 g1
          cases hX : atP T p with
          | none =>
            obtain rfl := hl1.out hX
            obtain ⟨o2, ho2⟩ : ∃ o2, (atP U q).isSome = o2 := ⟨_, rfl⟩
            rw [ho2]
            clear hl1 hl2 hl3 hl4 hss htt hat1 hat2 hX ho2
            go_wp2_with (first
              | ((with_reducible refine wpList_isStore 30 (.tmp 12) (.tmp 71) rfl ?_); refine wpList_store_blk rfl 30 (.tmp 12) (.tmp 71) rfl w6.heap.size (smA (t1, t2)) rfl rfl 30 zS bn.out (sumInfo _ _) rfl (by simp [Value.oneCell']) ?_; intro w7 m k z; replace GG := Lib.hid (Gr.trans GG.out (Kb.new k)); replace nT := Lib.hid (nT.out.on (Kb.new k)); replace nU := Lib.hid (nU.out.on (Kb.new k)); replace b5 := blk_more b5.out (Kb.new k); replace d0 := b5.cell 0; replace d1 := b5.cell 1; replace b5 := Lib.hid b5; replace b10 := Lib.hid (blk_more b10.out (Kb.new k)); have b12 := Lib.hid m; clear m k z bn)
              | (go_at_call 7; fail))
            go_at_call 7
            refine (haw.out _).mono ?_
            rintro e w8 ⟨rfl, g1⟩
            replace GG := Lib.hid (Gr.trans GG.out g1)
            clear haw g1 nT nU b5 b10 b12 d0 d1
            go_wp2
            go_ret
            exact ⟨_, rfl, rfl, GG.out⟩
          | some X =>
            cases hY : atP U q with
            | none =>
              obtain rfl := hl2.out hY
              clear hl1 hl2 hl3 hl4 hss htt hat1 hat2 hX hY
              go_wp2_with (first
                | ((with_reducible refine wpList_isStore 30 (.tmp 12) (.tmp 71) rfl ?_); refine wpList_store_blk rfl 30 (.tmp 12) (.tmp 71) rfl w6.heap.size (smA (t1, t2)) rfl rfl 30 zS bn.out (sumInfo _ _) rfl (by simp [Value.oneCell']) ?_; intro w7 m k z; replace GG := Lib.hid (Gr.trans GG.out (Kb.new k)); replace nT := Lib.hid (nT.out.on (Kb.new k)); replace nU := Lib.hid (nU.out.on (Kb.new k)); replace b5 := blk_more b5.out (Kb.new k); replace d0 := b5.cell 0; replace d1 := b5.cell 1; replace b5 := Lib.hid b5; replace b10 := Lib.hid (blk_more b10.out (Kb.new k)); have b12 := Lib.hid m; clear m k z bn)
                | (go_at_call 7; fail))
              go_at_call 7
              refine (haw.out _).mono ?_
              rintro e w8 ⟨rfl, g1⟩
              replace GG := Lib.hid (Gr.trans GG.out g1)
              clear haw g1 nT nU b5 b10 b12 d0 d1
              go_wp2
              go_ret
              exact ⟨_, rfl, rfl, GG.out⟩
            | some Y =>
              have hs : Mix.of (textP T p) = (s1, s2) := hss.out _ (by rw [hX]; rfl)
              have ht : Mix.of (textP U q) = (t1, t2) := htt.out _ (by rw [hY]; rfl)
              cases r with
              | true =>
                have hh := hl3.out rfl
                rw [← hh, hs] at ht
                obtain ⟨rfl, rfl⟩ := Prod.mk.inj ht
                clear hl1 hl2 hl3 hl4 hss htt hat1 hat2 hX hY hs ht hh
                go_wp2_with (first
                  | ((with_reducible refine wpList_isStore 30 (.tmp 12) (.tmp 71) rfl ?_); refine wpList_store_blk rfl 30 (.tmp 12) (.tmp 71) rfl w6.heap.size (smA (s1, s2)) rfl rfl 30 zS bn.out (sumInfo _ _) rfl (by simp [Value.oneCell']) ?_; intro w7 m k z; replace GG := Lib.hid (Gr.trans GG.out (Kb.new k)); replace nT := Lib.hid (nT.out.on (Kb.new k)); replace nU := Lib.hid (nU.out.on (Kb.new k)); replace b5 := blk_more b5.out (Kb.new k); replace d0 := b5.cell 0; replace d1 := b5.cell 1; replace b5 := Lib.hid b5; replace b10 := Lib.hid (blk_more b10.out (Kb.new k)); have b12 := Lib.hid m; clear m k z bn)
                  | (go_at_call 7; fail))
                go_at_call 7
                refine (haw.out _).mono ?_
                rintro e w8 ⟨rfl, g1⟩
                replace GG := Lib.hid (Gr.trans GG.out g1)
                replace b10 := blk_more b10.out g1
                have x0 := b10.cell 0
                have x1 := b10.cell 1
                replace b12 := blk_more b12.out g1
                have y0 := b12.cell 0
                have y1 := b12.cell 1
                clear haw g1 nT nU b5 b10 b12 d0 d1
                go_wp2
                go_ret
                exact ⟨_, rfl, rfl, GG.out⟩
              | false =>
                have hKT := at_kind huT hX
                have hKU := at_kind huU hY
                have hcx := hl4.out X Y hX hY
                rw [hs, ht] at hcx
                obtain ⟨kx, hXk⟩ : ∃ kx, X.kind = kx := ⟨_, rfl⟩
                obtain ⟨ky, hYk⟩ : ∃ ky, Y.kind = ky := ⟨_, rfl⟩
                rw [hXk] at hcx hKT
                rw [hYk] at hcx hKU
                have hC : Hid (kx = ky → (s1, s2) = (t1, t2) → Clash T U) := Lib.hid (fun h1 h2 => hcx h1 h2 rfl)
                replace hKT := Lib.hid hKT
                replace hKU := Lib.hid hKU
                replace hXk := Lib.hid hXk
                replace hYk := Lib.hid hYk
                clear hl1 hl2 hl3 hl4 hss htt hX hY hs ht hcx huT huU
                go_wp2_with (first
                  | ((with_reducible refine wpList_isStore 30 (.tmp 12) (.tmp 71) rfl ?_); refine wpList_store_blk rfl 30 (.tmp 12) (.tmp 71) rfl w6.heap.size (smA (t1, t2)) rfl rfl 30 zS bn.out (sumInfo _ _) rfl (by simp [Value.oneCell']) ?_; intro w7 m k z; replace GG := Lib.hid (Gr.trans GG.out (Kb.new k)); replace nT := Lib.hid (nT.out.on (Kb.new k)); replace nU := Lib.hid (nU.out.on (Kb.new k)); replace b5 := blk_more b5.out (Kb.new k); replace d0 := b5.cell 0; replace d1 := b5.cell 1; replace b5 := Lib.hid b5; replace b10 := Lib.hid (blk_more b10.out (Kb.new k)); have b12 := Lib.hid m; have b1 := Blk.new w7 34 (ndA noNd); have h2 := (Gr.refl w7).alloc (.cells (ndA noNd) 34); have b2 := Blk.new (w7.alloc (.cells (ndA noNd) 34)) 34 (ndA noNd); rw [World.size_alloc] at b2; replace G7 := Lib.hid (h2.alloc (.cells (ndA noNd) 34)); have b1 := Lib.hid (b1.alloc (.cells (ndA noNd) 34)); have b2 := Lib.hid b2; clear h2; clear m k z bn)
                  | ((with_reducible refine wpList_isStore 34 (.tmp 14) (.tmp 91) rfl ?_); refine wpList_store_blk rfl 34 (.tmp 14) (.tmp 91) rfl w7.heap.size (ndA root) rfl rfl 34 (ndA noNd) b1.out (nodeInfo _ _ _ _ _) rfl (by simp [Value.oneCell']) ?_; intro w8 n k z; replace N1 := Lib.hid n; replace N2 := Lib.hid (k.blk b2.out (by omega)); replace G7 := Lib.hid (Below.trans G7.out (Kb.below k (by rw [World.size_alloc, World.size_alloc]; omega))); have hz8 : w8.heap.size = w7.heap.size + 2 := (by rw [z, World.size_alloc, World.size_alloc]); clear b1 b2; clear n k z)
                  | ((with_reducible refine wpList_isStore 34 (.tmp 15) (.tmp 92) rfl ?_); refine wpList_store_blk rfl 34 (.tmp 15) (.tmp 92) rfl (w7.heap.size + 1) (ndA root) rfl rfl 34 (ndA noNd) N2.out (nodeInfo _ _ _ _ _) rfl (by simp [Value.oneCell']) ?_; intro w9 n k z; replace N1 := Lib.hid (k.blk N1.out (by omega)); replace N2 := Lib.hid n; replace G7 := Lib.hid (Below.trans G7.out (Below.mono (Kb.below k (by omega)) (by omega))); have hz9 : w9.heap.size = w7.heap.size + 2 := z.trans hz8; replace d0 := (blk_more b5.out G7.out).cell 0; replace d1 := (blk_more b5.out G7.out).cell 1; clear n k z)
                  | (go_at_call 12; fail))
                go_at_call 12
                refine (hat1.out _ (nT.out.on G7.out)).mono ?_
                rintro e w0 ⟨rfl, rfl⟩
                clear hat1
                rcases hKT.out with ⟨hI, hk1⟩ | ⟨i, hil, hI, hTi⟩
                · rw [hI]
                  have hkx : Hid (root.kind = kx) := Lib.hid hk1.symm
                  clear hI hk1
                  go_wp2_with fail
                  go_at_call 12
                  refine (hat2.out _ (nU.out.on G7.out)).mono ?_
                  rintro e w0 ⟨rfl, rfl⟩
                  clear hat2
                  rcases hKU.out with ⟨hJ, hk2⟩ | ⟨j, hjl, hJ, hUj⟩
                  · rw [hJ]
                    have hky : Hid (root.kind = ky) := Lib.hid hk2.symm
                    clear hJ hk2
                    go_wp2_with fail
                    go_at_call 7
                    refine (haw.out _).mono ?_
                    rintro e v1 ⟨rfl, g1⟩
                    replace G7 := Lib.hid (Gr.trans G7.out g1)
                    have x1 : v1.cell? ⟨w7.heap.size, 1, none⟩ = some (.int .i64 kx) := by rw [← hkx.out]; exact (blk_more N1.out g1).cell 1
                    have y1 : v1.cell? ⟨w7.heap.size + 1, 1, none⟩ = some (.int .i64 ky) := by rw [← hky.out]; exact (blk_more N2.out g1).cell 1
                    replace b10 := blk_more b10.out G7.out
                    have p0 := b10.cell 0
                    have p1 := b10.cell 1
                    replace b12 := blk_more b12.out G7.out
                    have q0 := b12.cell 0
                    have q1 := b12.cell 1
                    replace nT := Lib.hid (nT.out.on G7.out)
                    replace nU := Lib.hid (nU.out.on G7.out)
                    replace GG := Lib.hid (Gr.trans GG.out G7.out)
                    clear g1 haw b10 b12 b5 G7 N1 N2 hkx hky
                    by_cases hk : kx = ky
                    · by_cases hs1 : s1 = t1
                      · by_cases hs2 : s2 = t2
                        · have hcl := hC.out hk (by rw [hs1, hs2])
                          have hcc := Lib.hid (fun w h1 h2 => refClash_any T U AT AU cT cU hfT hfU w h1 h2 hcl)
                          subst hk hs1 hs2
                          have hkk : (kx != kx) = false := by simp
                          clear hC hcl
                          go_wp2_with fail
                          go_at_call 13
                          refine (hcc.out _ nT.out nU.out).mono ?_
                          rintro e v2 ⟨rfl, g1⟩
                          replace GG := Lib.hid (Gr.trans GG.out g1)
                          clear g1 hcc nT nU x1 y1 p0 p1 q0 q1
                          go_wp2
                          go_ret
                          exact ⟨_, rfl, rfl, GG.out⟩
                        · subst hk hs1
                          have hkk : (kx != kx) = false := by simp
                          clear hC nT nU
                          go_wp2
                          go_ret
                          exact ⟨_, rfl, rfl, GG.out⟩
                      · subst hk
                        have hkk : (kx != kx) = false := by simp
                        clear hC nT nU
                        go_wp2
                        go_ret
                        exact ⟨_, rfl, rfl, GG.out⟩
                    · have hkk : (kx != ky) = true := by simpa using hk
                      clear hC nT nU hk
                      go_wp2
                      go_ret
                      exact ⟨_, rfl, rfl, GG.out⟩
                  · rw [hJ]
                    obtain ⟨ae, hB, hlb, f0, f1, f2, f3, f4⟩ := (nU.out.on G7.out).at_ hjl
                    subst hB
                    rw [hUj] at f0 f1 f2 f3 f4
                    have j1 : (0 : Int) ≤ (j : Int) := by omega
                    have j2 : (j : Int) < (U.length : Int) := by omega
                    have hky : Hid (Y.kind = ky) := Lib.hid hYk
                    clear hJ hUj hlb
                    go_wp2_with (first
                      | ((with_reducible refine wpList_isStore 34 (.tmp 15) (.tmp 112) rfl ?_); refine wpList_store_blk rfl 34 (.tmp 15) (.tmp 112) rfl (w7.heap.size + 1) (ndA Y) rfl rfl 34 (ndA root) N2.out (nodeInfo _ _ _ _ _) rfl (by simp [Value.oneCell']) ?_; intro w11 n k z; replace N1 := Lib.hid (k.blk N1.out (by omega)); replace N2 := Lib.hid n; replace G7 := Lib.hid (Below.trans G7.out (Below.mono (Kb.below k (by omega)) (by omega))); clear f0 f1 f2 f3 f4; clear n k z)
                      | (go_at_call 7; fail))
                    go_at_call 7
                    refine (haw.out _).mono ?_
                    rintro e v1 ⟨rfl, g1⟩
                    replace G7 := Lib.hid (Gr.trans G7.out g1)
                    have x1 : v1.cell? ⟨w7.heap.size, 1, none⟩ = some (.int .i64 kx) := by rw [← hkx.out]; exact (blk_more N1.out g1).cell 1
                    have y1 : v1.cell? ⟨w7.heap.size + 1, 1, none⟩ = some (.int .i64 ky) := by rw [← hky.out]; exact (blk_more N2.out g1).cell 1
                    replace b10 := blk_more b10.out G7.out
                    have p0 := b10.cell 0
                    have p1 := b10.cell 1
                    replace b12 := blk_more b12.out G7.out
                    have q0 := b12.cell 0
                    have q1 := b12.cell 1
                    replace nT := Lib.hid (nT.out.on G7.out)
                    replace nU := Lib.hid (nU.out.on G7.out)
                    replace GG := Lib.hid (Gr.trans GG.out G7.out)
                    clear g1 haw b10 b12 b5 G7 N1 N2 hkx hky
                    by_cases hk : kx = ky
                    · by_cases hs1 : s1 = t1
                      · by_cases hs2 : s2 = t2
                        · have hcl := hC.out hk (by rw [hs1, hs2])
                          have hcc := Lib.hid (fun w h1 h2 => refClash_any T U AT (some ae) cT cU hfT hfU w h1 h2 hcl)
                          subst hk hs1 hs2
                          have hkk : (kx != kx) = false := by simp
                          clear hC hcl
                          go_wp2_with fail
                          go_at_call 13
                          refine (hcc.out _ nT.out nU.out).mono ?_
                          rintro e v2 ⟨rfl, g1⟩
                          replace GG := Lib.hid (Gr.trans GG.out g1)
                          clear g1 hcc nT nU x1 y1 p0 p1 q0 q1
                          go_wp2
                          go_ret
                          exact ⟨_, rfl, rfl, GG.out⟩
                        · subst hk hs1
                          have hkk : (kx != kx) = false := by simp
                          clear hC nT nU
                          go_wp2
                          go_ret
                          exact ⟨_, rfl, rfl, GG.out⟩
                      · subst hk
                        have hkk : (kx != kx) = false := by simp
                        clear hC nT nU
                        go_wp2
                        go_ret
                        exact ⟨_, rfl, rfl, GG.out⟩
                    · have hkk : (kx != ky) = true := by simpa using hk
                      clear hC nT nU hk
                      go_wp2
                      go_ret
                      exact ⟨_, rfl, rfl, GG.out⟩
                · rw [hI]
                  obtain ⟨ad, hA, hla, e0, e1, e2, e3, e4⟩ := (nT.out.on G7.out).at_ hil
                  subst hA
                  rw [hTi] at e0 e1 e2 e3 e4
                  have i1 : (0 : Int) ≤ (i : Int) := by omega
                  have i2 : (i : Int) < (T.length : Int) := by omega
                  have hkx : Hid (X.kind = kx) := Lib.hid hXk
                  clear hI hTi hla
                  go_wp2_with (first
                    | ((with_reducible refine wpList_isStore 34 (.tmp 14) (.tmp 102) rfl ?_); refine wpList_store_blk rfl 34 (.tmp 14) (.tmp 102) rfl w7.heap.size (ndA X) rfl rfl 34 (ndA root) N1.out (nodeInfo _ _ _ _ _) rfl (by simp [Value.oneCell']) ?_; intro w10 n k z; replace N2 := Lib.hid (k.blk N2.out (by omega)); replace N1 := Lib.hid n; replace G7 := Lib.hid (Below.trans G7.out (Kb.below k (by omega))); have hz10 : w10.heap.size = w7.heap.size + 2 := z.trans hz9; clear d0 d1 e0 e1 e2 e3 e4; replace d0 := (blk_more b5.out G7.out).cell 0; replace d1 := (blk_more b5.out G7.out).cell 1; clear n k z)
                    | (go_at_call 12; fail))
                  go_at_call 12
                  refine (hat2.out _ (nU.out.on G7.out)).mono ?_
                  rintro e w0 ⟨rfl, rfl⟩
                  clear hat2
                  rcases hKU.out with ⟨hJ, hk2⟩ | ⟨j, hjl, hJ, hUj⟩
                  · rw [hJ]
                    have hky : Hid (root.kind = ky) := Lib.hid hk2.symm
                    clear hJ hk2
                    go_wp2_with fail
                    go_at_call 7
                    refine (haw.out _).mono ?_
                    rintro e v1 ⟨rfl, g1⟩
                    replace G7 := Lib.hid (Gr.trans G7.out g1)
                    have x1 : v1.cell? ⟨w7.heap.size, 1, none⟩ = some (.int .i64 kx) := by rw [← hkx.out]; exact (blk_more N1.out g1).cell 1
                    have y1 : v1.cell? ⟨w7.heap.size + 1, 1, none⟩ = some (.int .i64 ky) := by rw [← hky.out]; exact (blk_more N2.out g1).cell 1
                    replace b10 := blk_more b10.out G7.out
                    have p0 := b10.cell 0
                    have p1 := b10.cell 1
                    replace b12 := blk_more b12.out G7.out
                    have q0 := b12.cell 0
                    have q1 := b12.cell 1
                    replace nT := Lib.hid (nT.out.on G7.out)
                    replace nU := Lib.hid (nU.out.on G7.out)
                    replace GG := Lib.hid (Gr.trans GG.out G7.out)
                    clear g1 haw b10 b12 b5 G7 N1 N2 hkx hky
                    by_cases hk : kx = ky
                    · by_cases hs1 : s1 = t1
                      · by_cases hs2 : s2 = t2
                        · have hcl := hC.out hk (by rw [hs1, hs2])
                          have hcc := Lib.hid (fun w h1 h2 => refClash_any T U (some ad) AU cT cU hfT hfU w h1 h2 hcl)
                          subst hk hs1 hs2
                          have hkk : (kx != kx) = false := by simp
                          clear hC hcl
                          go_wp2_with fail
                          go_at_call 13
                          refine (hcc.out _ nT.out nU.out).mono ?_
                          rintro e v2 ⟨rfl, g1⟩
                          replace GG := Lib.hid (Gr.trans GG.out g1)
                          clear g1 hcc nT nU x1 y1 p0 p1 q0 q1
                          go_wp2
                          go_ret
                          exact ⟨_, rfl, rfl, GG.out⟩
                        · subst hk hs1
                          have hkk : (kx != kx) = false := by simp
                          clear hC nT nU
                          go_wp2
                          go_ret
                          exact ⟨_, rfl, rfl, GG.out⟩
                      · subst hk
                        have hkk : (kx != kx) = false := by simp
                        clear hC nT nU
                        go_wp2
                        go_ret
                        exact ⟨_, rfl, rfl, GG.out⟩
                    · have hkk : (kx != ky) = true := by simpa using hk
                      clear hC nT nU hk
                      go_wp2
                      go_ret
                      exact ⟨_, rfl, rfl, GG.out⟩
                  · rw [hJ]
                    obtain ⟨ae, hB, hlb, f0, f1, f2, f3, f4⟩ := (nU.out.on G7.out).at_ hjl
                    subst hB
                    rw [hUj] at f0 f1 f2 f3 f4
                    have j1 : (0 : Int) ≤ (j : Int) := by omega
                    have j2 : (j : Int) < (U.length : Int) := by omega
                    have hky : Hid (Y.kind = ky) := Lib.hid hYk
                    clear hJ hUj hlb
                    go_wp2_with (first
                      | ((with_reducible refine wpList_isStore 34 (.tmp 15) (.tmp 112) rfl ?_); refine wpList_store_blk rfl 34 (.tmp 15) (.tmp 112) rfl (w7.heap.size + 1) (ndA Y) rfl rfl 34 (ndA root) N2.out (nodeInfo _ _ _ _ _) rfl (by simp [Value.oneCell']) ?_; intro w11 n k z; replace N1 := Lib.hid (k.blk N1.out (by omega)); replace N2 := Lib.hid n; replace G7 := Lib.hid (Below.trans G7.out (Below.mono (Kb.below k (by omega)) (by omega))); clear f0 f1 f2 f3 f4; clear n k z)
                      | (go_at_call 7; fail))
                    go_at_call 7
                    refine (haw.out _).mono ?_
                    rintro e v1 ⟨rfl, g1⟩
                    replace G7 := Lib.hid (Gr.trans G7.out g1)
                    have x1 : v1.cell? ⟨w7.heap.size, 1, none⟩ = some (.int .i64 kx) := by rw [← hkx.out]; exact (blk_more N1.out g1).cell 1
                    have y1 : v1.cell? ⟨w7.heap.size + 1, 1, none⟩ = some (.int .i64 ky) := by rw [← hky.out]; exact (blk_more N2.out g1).cell 1
                    replace b10 := blk_more b10.out G7.out
                    have p0 := b10.cell 0
                    have p1 := b10.cell 1
                    replace b12 := blk_more b12.out G7.out
                    have q0 := b12.cell 0
                    have q1 := b12.cell 1
                    replace nT := Lib.hid (nT.out.on G7.out)
                    replace nU := Lib.hid (nU.out.on G7.out)
                    replace GG := Lib.hid (Gr.trans GG.out G7.out)
                    clear g1 haw b10 b12 b5 G7 N1 N2 hkx hky
                    by_cases hk : kx = ky
                    · by_cases hs1 : s1 = t1
                      · by_cases hs2 : s2 = t2
                        · have hcl := hC.out hk (by rw [hs1, hs2])
                          have hcc := Lib.hid (fun w h1 h2 => refClash_any T U (some ad) (some ae) cT cU hfT hfU w h1 h2 hcl)
                          subst hk hs1 hs2
                          have hkk : (kx != kx) = false := by simp
                          clear hC hcl
                          go_wp2_with fail
                          go_at_call 13
                          refine (hcc.out _ nT.out nU.out).mono ?_
                          rintro e v2 ⟨rfl, g1⟩
                          replace GG := Lib.hid (Gr.trans GG.out g1)
                          clear g1 hcc nT nU x1 y1 p0 p1 q0 q1
                          go_wp2
                          go_ret
                          exact ⟨_, rfl, rfl, GG.out⟩
                        · subst hk hs1
                          have hkk : (kx != kx) = false := by simp
                          clear hC nT nU
                          go_wp2
                          go_ret
                          exact ⟨_, rfl, rfl, GG.out⟩
                      · subst hk
                        have hkk : (kx != kx) = false := by simp
                        clear hC nT nU
                        go_wp2
                        go_ret
                        exact ⟨_, rfl, rfl, GG.out⟩
                    · have hkk : (kx != ky) = true := by simpa using hk
                      clear hC nT nU hk
                      go_wp2
                      go_ret
                      exact ⟨_, rfl, rfl, GG.out⟩
    · have hsmf : smallP m = false := by simpa using hsm
      rw [hsmf] at hsm2
      clear hsl hsm hsmf hra hrb hra0 hrb0
      go_wp2_with fail
      go_at_call 6
      refine hsm1.out.mono ?_
      rintro e w1 ⟨rfl, rfl⟩
      go_wp2_with fail
      go_at_call 6
      refine hsm2.out.mono ?_
      rintro e w1 ⟨rfl, rfl⟩
      clear hsm1 hsm2
      go_wp2_with fail
      go_at_call 7
      refine (haw.out _).mono ?_
      rintro e w2 ⟨rfl, g2⟩
      have G2 := Lib.hid (Gr.trans g0.out g2)
      clear haw g2 g0 b0
      go_wp2
      go_ret
      exact ⟨_, rfl, rfl, G2.out⟩
  · have hslf : smallP l = false := by simpa using hsl
    rw [hslf] at hsm1
    clear hsl hslf hra hrb hra0 hrb0
    go_wp2_with fail
    go_at_call 6
    refine hsm1.out.mono ?_
    rintro e w1 ⟨rfl, rfl⟩
    clear hsm1 hsm2
    go_wp2_with fail
    go_at_call 7
    refine (haw.out _).mono ?_
    rintro e w2 ⟨rfl, g2⟩
    have G2 := Lib.hid (Gr.trans g0.out g2)
    clear haw g2 g0 b0
    go_wp2
    go_ret
    exact ⟨_, rfl, rfl, G2.out⟩
end Tr
end Go.Proofs.Yteadcblmomngpaa
