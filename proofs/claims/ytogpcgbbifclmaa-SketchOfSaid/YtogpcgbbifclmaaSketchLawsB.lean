/- The walk of SketchOf: it returns true and writes nothing that was there. No condition. -/
import Derived.Test.YtogpcgbbifclmaaSketchAwake
set_option linter.unusedVariables false
set_option linter.unusedSimpArgs false
namespace Go.Proofs.Ytogpcgbbifclmaa
open Go Go.RowKit Go.Shelf W
attribute [local go_sem] Oper.semAt_some
namespace Sk
/-- What was told last is not the word there. -/
def Off (l : List UInt8) (pre : List UInt64) : Prop := ∃ ini last, pre = ini ++ [last] ∧ (shingles l)[ini.length]? ≠ some last
theorem not_off {l : List UInt8} {k : Nat} (hk : k ≤ (shingles l).length) : ¬ Off l ((shingles l).take k) := by
  rintro ⟨ini, last, e, h⟩
  have hl : ini.length + 1 = k := by
    have := congrArg List.length e
    rw [List.length_take, List.length_append] at this
    simp at this
    omega
  have h1 : ((shingles l).take k)[ini.length]? = some last := by rw [e]; simp
  rw [List.getElem?_take, if_pos (by omega)] at h1
  exact h h1
def WI (g : Nat) (w3 : World) (y : UInt8) (v : Value) (pre : List UInt64) (W : World) : Prop :=
  (pre.length ≤ y.toNat ∧ Blk W g 27 #[v] ∧ Blk W (g + 1) 3 #[.int .i64 (pre.length : Int)]) ∧ Below g w3 W
def WX (g s : Nat) (w w3 : World) (l : List UInt8) (y : UInt8) (v : Value) (j : Code) (pre : List UInt64) (W : World) : Prop :=
  (j = .ret ∧ Off l pre) ∨ (j = .exit 0 ∧ pre.length = y.toNat + 1 ∧ Blk W g 27 #[v] ∧ Blk W (g + 1) 3 #[.int .i64 (n8 y)] ∧ Below g w3 W)
theorem wi_own (g : Nat) (w3 : World) (y : UInt8) (v : Value) (B : Nat) (hB : g ≤ B) (h3 : g ≤ w3.heap.size) : OwnFrom B (WI g w3 y v) :=
  OwnFrom.and (fun s X Y row hs hg hr => ⟨hs.1, blk_own (fun (_ : List UInt64) => _) B s X Y row hs.2.1 hg hr, blk_own (fun (s : List UInt64) => #[.int .i64 (s.length : Int)]) B s X Y row hs.2.2 hg hr⟩) (ownFrom_below h3 hB)
theorem wx_own (g s : Nat) (w w3 : World) (l : List UInt8) (y : UInt8) (v : Value) (B : Nat) (hB : g ≤ B) (h3 : g ≤ w3.heap.size) (j : Code) : OwnFrom B (WX g s w w3 l y v j) := by
  intro p X Y row hs hg hr
  rcases hs with h | ⟨h1, h2, h3', h4, h5⟩
  · exact .inl h
  · exact .inr ⟨h1, h2, blk_own (fun (_ : List UInt64) => _) B p X Y row h3' hg hr, blk_own (fun (_ : List UInt64) => _) B p X Y row h4 hg hr, ownFrom_below (β := List UInt64) h3 hB p X Y row h5 hg hr⟩

set_option maxRecDepth 100000 in
set_option maxHeartbeats 4000000 in
theorem sketchOf_walk (A : Option Addr) (c : Nat) (l : List UInt8) (y : UInt8) (w : World) (hc : l.length ≤ c) (hm : c ≤ maxLen) (hr : RB w w.heap.size A l) :
    Calls Try.prog 3 #[.slice A l.length c, .int .u8 (n8 y)] w (Ret (eqv (.bool true)) w) := by
  have hrh := Lib.hid hr
  clear hr
  have haw := Lib.hid (fun w => awake_any w)
  by_cases h120 : l.length ≤ 120
  · have k120 : ¬ (120 : Int) < (l.length : Int) := by omega
    have s0 := n8_lt y
    have s1 := n8_pos y
    have hfn : ∀ (cap : Array Value) (w : World), (binOp .eql 25 (.func (.func 14) #[] cap) .nilFunc).run Try.prog w = .ok (.bool false) w := by
      intro cap w
      rfl
    refine (callsIn_wide (n := 7)).1 ?_
    refine callsIn_of_wp_marks Try.func3 rfl trivial ?_ rfl
    simp only [Try.ntmps3, List.size_toArray, List.length_cons, List.length_nil, Nat.reduceAdd, Nat.reduceSub, Array.replicate_succ, Array.replicate_zero, List.push_toArray, List.append_toArray, List.nil_append, List.cons_append]
    refine wpIn_wide.2 ?_
    have b0 := (Blk.new w 5 #[.int .u8 (n8 y)]).alloc (.cells #[.bool false] 4)
    have b1 := Blk.new (w.alloc (.cells #[.int .u8 (n8 y)] 5)) 4 #[.bool false]
    rw [World.size_alloc] at b1
    have g0 := Lib.hid (((Gr.refl w).alloc (.cells #[.int .u8 (n8 y)] 5)).alloc (.cells #[.bool false] 4))
    replace b0 := Lib.hid b0
    replace b1 := Lib.hid b1
    go_wp2_with fail
    go_at_call 7
    refine (shingles_blk A l.length c (w.heap.size + 2) _ (by simp)).mono ?_
    rintro e w1 ⟨rfl, b2, hg1⟩
    have hr1 := hrh.out.below (Gr.trans g0.out hg1)
    have hbs := run_bytes_string (P := Try.prog) w1 22 9 5 Try.underlying22 Try.underlying5 Try.underlying9 _ A c l.length l rfl hr1
    replace b0 := Lib.hid (blk_more b0.out hg1)
    replace b1 := Lib.hid (blk_more b1.out hg1)
    have l2 := b2.lt
    replace b2 := Lib.hid b2
    replace g0 := Lib.hid (Gr.trans g0.out hg1)
    clear hg1 hr1
    go_wp2_with fail
    go_at_call 8
    refine (refShingles_any l _ (by omega)).mono ?_
    rintro e w2 ⟨A2, c2, rfl, hown, hg2⟩
    have l3 := hg2.size
    obtain ⟨w3, hw3⟩ : ∃ w3, (w2.alloc (.cells #[.slice A2 (shingles l).length c2] 27)).alloc (.cells #[.int .i64 0] 3) = w3 := ⟨_, rfl⟩
    have hgr : Gr w2 w3 := by rw [← hw3]; exact ((Gr.refl w2).alloc _).alloc _
    have d0 := Lib.hid (blk_more (blk_more b0.out hg2) hgr)
    have d1 := Lib.hid (blk_more (blk_more b1.out hg2) hgr)
    have d2 := Lib.hid (blk_more (blk_more b2.out hg2) hgr)
    have d3 : Hid (Blk w3 w2.heap.size 27 #[.slice A2 (shingles l).length c2]) := by rw [← hw3]; exact Lib.hid ((Blk.new w2 _ _).alloc _)
    have d4 : Hid (Blk w3 (w2.heap.size + 1) 3 #[.int .i64 0]) := by
      have := Blk.new (w2.alloc (.cells #[.slice A2 (shingles l).length c2] 27)) 3 #[.int .i64 0]
      rw [World.size_alloc, hw3] at this
      exact Lib.hid this
    have hsz : w3.heap.size = w2.heap.size + 2 := by rw [← hw3]; simp
    have hwd := Lib.hid (hown.reads.below hgr)
    have gg := Lib.hid (Gr.trans (Gr.trans g0.out hg2) hgr)
    have hre := Lib.hid (hrh.out.below gg.out)
    clear b0 b1 b2 g0 hg2 hown hgr hbs
    replace hw3 := Lib.hid hw3
    go_wp2
    rw [hw3.out]
    clear hw3
    refine (wpIn_wide (n := 7)).1 ?_
    have hgs : Below w.heap.size w w3 := gg.out
    have hown1 := wi_own w2.heap.size w3 y (.slice A2 (shingles l).length c2) w3.heap.size (by omega) (by omega)
    have hown2 := wx_own w2.heap.size w.heap.size w w3 l y (.slice A2 (shingles l).length c2) w3.heap.size (by omega) (by omega)
    refine wpIn_rangeFunc_ownG rfl (by omega) (gf := 14) (lb := #[.pointer (some ⟨w.heap.size + 2, 0, none⟩)]) rfl trivial (enters_of Try.func14 (by kernel_rfl) rfl)
      (sh_stops 6 (by omega) (w.heap.size + 2) (w.heap.size + 3) A c l (by omega) hc hm w3 (by omega) (by omega) (d2.out.cell 0) (hre.out.more (by omega))) belowK_t (belowK_b (by omega)) (Below.refl _ _) (fun _ => rfl)
      (WI w2.heap.size w3 y (.slice A2 (shingles l).length c2)) (WX w2.heap.size w.heap.size w w3 l y (.slice A2 (shingles l).length c2)) hown1 hown2
      ⟨⟨by simp, d3.out, d4.out⟩, Below.refl _ _⟩
      (fun x => { tmps := #[.slice A l.length c, .int .u8 (n8 y), undef, .pointer (some ⟨w.heap.size, 0, none⟩), .pointer (some ⟨w.heap.size + 1, 0, none⟩), .func (.func 14) #[] #[.pointer (some ⟨w.heap.size + 2, 0, none⟩)], .pointer (some ⟨w2.heap.size, 0, none⟩), .pointer (some ⟨w2.heap.size + 1, 0, none⟩), .int .u64 (n64 x), .slice A l.length c, .int .i64 (l.length : Int), .bool false, undef, .slice A l.length c, .func (.func 14) #[] #[.pointer (some ⟨w.heap.size + 2, 0, none⟩)], .func (.func 14) #[] #[.pointer (some ⟨w.heap.size + 2, 0, none⟩)], .bool false, .slice A l.length c, .string ⟨l.toArray⟩, .slice A2 (shingles l).length c2, .func (.func 14) #[] #[.pointer (some ⟨w.heap.size + 2, 0, none⟩)], .int .u64 (n64 x), undef, undef, undef, undef, undef, undef, undef, undef, undef, undef, undef, undef, undef, undef, undef, undef, undef, undef, undef, undef, undef, undef, undef, undef, undef, undef, undef, undef, undef, undef, undef, undef, undef, undef, undef, undef], defers := [] }) ?assign ?body ?done ?stop
    case assign =>
      intro lp x W K hK
      dsimp only [enc]
      gi_wp2
      exact hK
    case body =>
      rintro lp pre x W ⟨⟨hpl, b3, b4⟩, hB⟩ hlt
      have b0 := d0.out.below hB (show w.heap.size < w2.heap.size by omega)
      have b1 := d1.out.below hB (show w.heap.size + 1 < w2.heap.size by omega)
      have hrd := hwd.out.below hB
      clear d0 d1 d2 d3 d4 hwd gg hre hown1 hown2
      have c0 : W.cell? ⟨w.heap.size, 0, none⟩ = some (.int .u8 (n8 y)) := b0.cell 0
      have c1 : W.cell? ⟨w.heap.size + 1, 0, none⟩ = some (.bool false) := b1.cell 0
      have f1 : W.frozen? ⟨w.heap.size + 1, 0, none⟩ = false := b1.frozen 0
      have c3 : W.cell? ⟨w2.heap.size, 0, none⟩ = some (.slice A2 (shingles l).length c2) := b3.cell 0
      have c4 : W.cell? ⟨w2.heap.size + 1, 0, none⟩ = some (.int .i64 (pre.length : Int)) := b4.cell 0
      have f4 : W.frozen? ⟨w2.heap.size + 1, 0, none⟩ = false := b4.frozen 0
      by_cases hmost : pre.length = y.toNat
      · have e1 : ((pre.length : Int) == n8 y) = true := by rw [hmost, n8_def]; simp
        have b4' := b4
        rw [hmost] at b4'
        replace b4' := Lib.hid b4'
        replace b3 := Lib.hid b3
        clear b0 b1 hrd b4
        gi_wp2
        exact ⟨KeepsFrom.refl _ _, .inr ⟨rfl, by simp [hmost], b3.out, b4'.out, hB⟩⟩
      · have e1 : ((pre.length : Int) == n8 y) = false := by rw [n8_def]; simp; omega
        obtain ⟨ad, u, hA, _, hu, hcell⟩ := hrd.at_ hlt
        have hu' : (shingles l)[pre.length]?.map v64 = some u := by rw [← hu, List.getElem?_map]
        rw [List.getElem?_eq_getElem hlt] at hu'
        obtain rfl : v64 (shingles l)[pre.length] = u := Option.some.inj hu'
        subst hA
        have hc' : W.cell? (ad.add pre.length) = some (.int .u64 (n64 (shingles l)[pre.length])) := hcell
        obtain ⟨z, hz⟩ : ∃ z, (shingles l)[pre.length]? = some z := ⟨_, List.getElem?_eq_getElem hlt⟩
        have hz' : (shingles l)[pre.length] = z := by rw [List.getElem?_eq_getElem hlt] at hz; exact Option.some.inj hz
        rw [hz'] at hc'
        replace hz := Lib.hid hz
        clear hu hu' hcell hz' hrd
        have k1 : ¬ ((shingles l).length : Int) ≤ (pre.length : Int) := by omega
        have k2 : 0 ≤ (pre.length : Int) := by omega
        have k5 : (pre.length : Int) < 1000 := by have := shingles_le l; omega
        have k3 : (pre.length : Int) < ((shingles l).length : Int) := by omega
        have k4 : (pre.length : Int).toNat = pre.length := by omega
        have hs4 : n8 y ≠ (pre.length : Int) := by rw [n8_def]; omega
        have m4 := b4.set_ 0 (.int .i64 ((pre.length : Int) + 1))
        have m3 := b3.far (p := ⟨w2.heap.size + 1, 0, none⟩) (by simp) (.int .i64 ((pre.length : Int) + 1))
        have mB := hB.setCell (p := ⟨w2.heap.size + 1, 0, none⟩) (by simp) (.int .i64 ((pre.length : Int) + 1))
        replace m4 := Lib.hid m4
        replace m3 := Lib.hid m3
        replace b3 := Lib.hid b3
        replace b4 := Lib.hid b4
        clear b0 b1
        by_cases hx : x = z
        · have e3 : (x != z) = false := by rw [hx]; simp
          replace hx := Lib.hid hx
          gi_wp2
          refine ⟨(KeepsOthers.setCell _ _ _).from _, (Below.refl _ W).setCell (p := ⟨w2.heap.size + 1, 0, none⟩) (by simp; omega) _, ⟨by rw [List.length_append]; simp; omega, m3.out, ?_⟩, mB⟩
          rw [List.length_append]
          exact m4.out
        · have e3 : (x != z) = true := by simpa using hx
          replace hx := Lib.hid hx
          gi_wp2
          refine ⟨(KeepsOthers.setCell _ _ _).from _, .inl ⟨rfl, pre, x, rfl, ?_⟩⟩
          rw [hz.out]
          intro h
          exact hx.out (Option.some.inj h).symm
    case done =>
      rintro D ys W hD rfl ⟨⟨hpl, b3, b4⟩, hB⟩ hK
      obtain ⟨want, hwant⟩ : ∃ x : Nat, x = min (shingles l).length y.toNat := ⟨_, rfl⟩
      have hmin : (if n8 y < ((shingles l).length : Int) then n8 y else ((shingles l).length : Int)) = (want : Int) := by rw [n8_def]; split <;> omega
      have hwv : want = (shingles l).length := by omega
      rw [← hwv] at b4
      replace hmin := Lib.hid hmin
      clear hwv hwant
      have b0 := d0.out.below hB (show w.heap.size < w2.heap.size by omega)
      have b1 := d1.out.below hB (show w.heap.size + 1 < w2.heap.size by omega)
      have hgW : Below w.heap.size w W := hgs.trans (hB.mono (by omega))
      have hrW : RB W W.heap.size A l := (hrh.out.below hgW).more hgW.size
      have c0 : W.cell? ⟨w.heap.size, 0, none⟩ = some (.int .u8 (n8 y)) := b0.cell 0
      have c3 : W.cell? ⟨w2.heap.size, 0, none⟩ = some (.slice A2 (shingles l).length c2) := b3.cell 0
      have c4 := b4.cell 0
      have hlt := b4.lt
      have hKlt : D < W.heap.size := (Array.getElem?_eq_some_iff.1 hK).1
      replace b1 := Lib.hid b1
      clear d0 d1 d2 d3 d4 hwd gg hre hown1 hown2 hB b0 b3 b4
      rename_i hk
      refine hk _ _ ?_
      clear hk
      go_wp2
      refine region_grow (by kernel_rfl) (by kernel_rfl) ?_
      refine GW.call0 (eqv (.bool true)) rfl trivial rfl Try.func6 (by kernel_rfl) (by kernel_rfl) (eqv_lasts _)  (fun w' hg => ?_) ?_
      · exact awake_any w'
      refine GW.mv rfl trivial (.inl rfl) (kn (t := 40) (j := 0) (by kernel_rfl)) (eqv_lasts _) ?_
      refine GW.ldAt ((want : Int)) rfl ⟨41, by kernel_rfl, by kernel_rfl, fun _ _ h => h⟩ rfl Try.underlying3 (kn0 (t := 7) (c := .pointer (some ⟨w2.heap.size + 1, 0, none⟩)) (by kernel_rfl) rfl) (c4) (by show w2.heap.size + 1 < W.heap.size; omega) ?_
      refine GW.p1 (.slice A2 (shingles l).length c2) rfl ⟨41, by kernel_rfl, by kernel_rfl, fun _ _ h => h⟩ (kn0 (t := 6) (c := .pointer (some ⟨w2.heap.size, 0, none⟩)) (by kernel_rfl) rfl) (fun ρ w' hρ hg => by have h0 := (hg.cell (p := ⟨w2.heap.size, 0, none⟩) (by show w2.heap.size < W.heap.size; omega)).trans c3; simp [execOp, hρ, go_sem, h0]) ?_
      refine GW.p1 (.int .i64 ((shingles l).length : Int)) rfl ⟨41, by kernel_rfl, by kernel_rfl, fun _ _ h => h⟩ (kn (t := 43) (j := 3) (by kernel_rfl)) (fun ρ w' hρ hg => by simp [execOp, resolve, invoke, builtin, hρ, Builtin.len_, run_underlying Try.underlying27, goInt]) ?_
      refine GW.ldAt ((n8 y)) rfl ⟨41, by kernel_rfl, by kernel_rfl, fun _ _ h => h⟩ rfl Try.underlying5 (kn0 (t := 3) (c := .pointer (some ⟨w.heap.size, 0, none⟩)) (by kernel_rfl) rfl) (c0) (by show w.heap.size < W.heap.size; omega) ?_
      refine GW.p1 (.int .i64 (n8 y)) rfl ⟨41, by kernel_rfl, by kernel_rfl, fun _ _ h => h⟩ (kn (t := 45) (j := 5) (by kernel_rfl)) (fun ρ w' hρ hg => by simp [execOp, hρ, go_sem, s0, s1]) ?_
      refine GW.p2 (.int .i64 (want : Int)) rfl ⟨41, by kernel_rfl, by kernel_rfl, fun _ _ h => h⟩ (kn (t := 44) (j := 4) (by kernel_rfl)) (kn (t := 46) (j := 6) (by kernel_rfl)) (fun ρ w' h1 h2 hg => by rw [← hmin.out]; simp [execOp, h1, h2, go_sem]) ?_
      refine GW.bin (.bool true) rfl ⟨41, by kernel_rfl, by kernel_rfl, fun _ _ h => h⟩ rfl (kn (t := 42) (j := 2) (by kernel_rfl)) (kn (t := 47) (j := 7) (by kernel_rfl)) (fun w' => run_eql_int rfl _ _ _ w') ?_
      refine GW.pick (b := true) rfl trivial rfl (kn (t := 41) (j := 1) (by kernel_rfl)) (kn (t := 48) (j := 8) (by kernel_rfl)) (eqv_lasts _) ?_
      refine GW.mv rfl trivial (.inl rfl) (kn (t := 49) (j := 9) (by kernel_rfl)) (eqv_lasts _) ?_
      refine GW.mv rfl ⟨50, by kernel_rfl, by kernel_rfl, fun _ _ h => h⟩ (.inl rfl) (kn0' (t := 0) (c := .slice A l.length c) (by kernel_rfl) rfl (isB_lasts l) (⟨A, c, rfl, hc, hm, hrW⟩)) (isB_lasts l) ?_
      refine GW.call1 (eqv (.agg (vs (sk l)))) rfl ⟨50, by kernel_rfl, by kernel_rfl, fun _ _ h => h⟩ rfl Try.func9 (by kernel_rfl) (by kernel_rfl) (eqv_lasts _) (kn (t := 51) (j := 11) (by kernel_rfl)) (fun v w' hg hv => ?_) ?_
      · obtain ⟨A', c', rfl, h1, h2, hr⟩ := hv
        refine (of_any A' c' l (by omega) h1 h2 w' hr).mono ?_
        rintro e w4 ⟨rfl, hg2⟩
        exact ⟨_, rfl, rfl, hg2⟩
      refine GW.mv rfl ⟨50, by kernel_rfl, by kernel_rfl, fun _ _ h => h⟩ (.inl rfl) (kn0' (t := 0) (c := .slice A l.length c) (by kernel_rfl) rfl (isB_lasts l) (⟨A, c, rfl, hc, hm, hrW⟩)) (isB_lasts l) ?_
      refine GW.bs (l) rfl ⟨50, by kernel_rfl, by kernel_rfl, fun _ _ h => h⟩ rfl Try.underlying22 byteType.1 Try.underlying9 (kn (t := 53) (j := 13) (by kernel_rfl)) ?_
      refine GW.call1 (eqv (.agg (vs (sk l)))) rfl ⟨50, by kernel_rfl, by kernel_rfl, fun _ _ h => h⟩ rfl Try.func10 (by kernel_rfl) (by kernel_rfl) (eqv_lasts _) (kn (t := 54) (j := 14) (by kernel_rfl)) (fun v w' hg hv => ?_) ?_
      · obtain rfl : v = _ := hv
        refine (refOf_any l w' (by omega)).mono ?_
        rintro e w2 ⟨rfl, hg2⟩
        exact ⟨_, rfl, rfl, hg2⟩
      refine GW.bin (.bool true) rfl ⟨50, by kernel_rfl, by kernel_rfl, fun _ _ h => h⟩ rfl (kn (t := 52) (j := 12) (by kernel_rfl)) (kn (t := 55) (j := 15) (by kernel_rfl)) (fun w' => by rw [eq_agg _ _ (sk_length l) (sk_length l)]; simp) ?_
      refine GW.pick (b := true) rfl trivial rfl (kn (t := 50) (j := 10) (by kernel_rfl)) (kn (t := 56) (j := 16) (by kernel_rfl)) (eqv_lasts _) ?_
      refine GW.tail (m := 18) (by simp) (by kernel_rfl) (by kernel_rfl) (fun w' hg => ?_)
      intro v0 _ v1 _ v2 _ v3 _ v4 _ v5 _ v6 _ v7 _ v8 _ v9 _ v10 _ v11 _ v12 _ v13 _ v14 _ v15 _ v16 _ v17 h17
      obtain rfl : v17 = (.bool true) := h17
      simp only [GFin, List.take_succ_cons, List.take_zero, List.drop_succ_cons, List.drop_zero, Act.put, List.setIfInBounds_toArray, List.set_cons_succ, List.set_cons_zero]
      have e1 := b1.out.below hg (show w.heap.size + 1 < W.heap.size by omega)
      have c1 := e1.cell 0
      have f1 := e1.frozen 0
      have hKg := (hg.block D hKlt).trans hK
      replace e1 := Lib.hid e1
      replace hKg := Lib.hid hKg
      replace hg := Lib.hid hg
      clear c0 c3 c4 hK hrW hmin b1
      go_wp2
      have hK' := (KeepsOthers.setCell w' ⟨w.heap.size + 1, 0, none⟩ (.bool true)).same D _ hKg.out rfl
      refine ⟨by simp, .inl ⟨_, _, rfl, run_takeDeferred hK', ?_⟩⟩
      have r1 := cell_kept ((Blk.set_ e1.out 0 (.bool true)).cell 0) (grownBy_putObj' _ D (.deferred none)) (fun r e => by cases e; exact ⟨_, hK', rfl⟩)
      refine ⟨.bool true, ?_, _, rfl, rfl, ((hgW.trans (hg.out.mono hgW.size)).setCell (p := ⟨w.heap.size + 1, 0, none⟩) (by simp) _).trans (belowK_b (w := w) (Nat.le_refl _) _ D _ _ (by omega) hK' rfl rfl)⟩
      simp [results, Try.f3, go_sem, r1]
    case stop =>
      rintro D j pre W hD ⟨k, hk0, rfl⟩ hx hK
      obtain ⟨rfl, ho⟩ | ⟨rfl, hl, b3, b4, hB⟩ := hx
      · exact absurd ho (not_off hk0)
      rw [List.length_take] at hl
      obtain ⟨want, hwant⟩ : ∃ x : Nat, x = min (shingles l).length y.toNat := ⟨_, rfl⟩
      have hmin : (if n8 y < ((shingles l).length : Int) then n8 y else ((shingles l).length : Int)) = (want : Int) := by rw [n8_def]; split <;> omega
      have hwv : want = y.toNat := by omega
      rw [n8_def, ← hwv] at b4
      replace hmin := Lib.hid hmin
      clear hwv hwant hl
      have b0 := d0.out.below hB (show w.heap.size < w2.heap.size by omega)
      have b1 := d1.out.below hB (show w.heap.size + 1 < w2.heap.size by omega)
      have hgW : Below w.heap.size w W := hgs.trans (hB.mono (by omega))
      have hrW : RB W W.heap.size A l := (hrh.out.below hgW).more hgW.size
      have c0 : W.cell? ⟨w.heap.size, 0, none⟩ = some (.int .u8 (n8 y)) := b0.cell 0
      have c3 : W.cell? ⟨w2.heap.size, 0, none⟩ = some (.slice A2 (shingles l).length c2) := b3.cell 0
      have c4 := b4.cell 0
      have hlt := b4.lt
      have hKlt : D < W.heap.size := (Array.getElem?_eq_some_iff.1 hK).1
      replace b1 := Lib.hid b1
      clear d0 d1 d2 d3 d4 hwd gg hre hown1 hown2 hB b0 b3 b4
      refine wpIn_wide.2 ?_
      go_wp2
      refine region_grow (by kernel_rfl) (by kernel_rfl) ?_
      refine GW.call0 (eqv (.bool true)) rfl trivial rfl Try.func6 (by kernel_rfl) (by kernel_rfl) (eqv_lasts _)  (fun w' hg => ?_) ?_
      · exact awake_any w'
      refine GW.mv rfl trivial (.inl rfl) (kn (t := 40) (j := 0) (by kernel_rfl)) (eqv_lasts _) ?_
      refine GW.ldAt ((want : Int)) rfl ⟨41, by kernel_rfl, by kernel_rfl, fun _ _ h => h⟩ rfl Try.underlying3 (kn0 (t := 7) (c := .pointer (some ⟨w2.heap.size + 1, 0, none⟩)) (by kernel_rfl) rfl) (c4) (by show w2.heap.size + 1 < W.heap.size; omega) ?_
      refine GW.p1 (.slice A2 (shingles l).length c2) rfl ⟨41, by kernel_rfl, by kernel_rfl, fun _ _ h => h⟩ (kn0 (t := 6) (c := .pointer (some ⟨w2.heap.size, 0, none⟩)) (by kernel_rfl) rfl) (fun ρ w' hρ hg => by have h0 := (hg.cell (p := ⟨w2.heap.size, 0, none⟩) (by show w2.heap.size < W.heap.size; omega)).trans c3; simp [execOp, hρ, go_sem, h0]) ?_
      refine GW.p1 (.int .i64 ((shingles l).length : Int)) rfl ⟨41, by kernel_rfl, by kernel_rfl, fun _ _ h => h⟩ (kn (t := 43) (j := 3) (by kernel_rfl)) (fun ρ w' hρ hg => by simp [execOp, resolve, invoke, builtin, hρ, Builtin.len_, run_underlying Try.underlying27, goInt]) ?_
      refine GW.ldAt ((n8 y)) rfl ⟨41, by kernel_rfl, by kernel_rfl, fun _ _ h => h⟩ rfl Try.underlying5 (kn0 (t := 3) (c := .pointer (some ⟨w.heap.size, 0, none⟩)) (by kernel_rfl) rfl) (c0) (by show w.heap.size < W.heap.size; omega) ?_
      refine GW.p1 (.int .i64 (n8 y)) rfl ⟨41, by kernel_rfl, by kernel_rfl, fun _ _ h => h⟩ (kn (t := 45) (j := 5) (by kernel_rfl)) (fun ρ w' hρ hg => by simp [execOp, hρ, go_sem, s0, s1]) ?_
      refine GW.p2 (.int .i64 (want : Int)) rfl ⟨41, by kernel_rfl, by kernel_rfl, fun _ _ h => h⟩ (kn (t := 44) (j := 4) (by kernel_rfl)) (kn (t := 46) (j := 6) (by kernel_rfl)) (fun ρ w' h1 h2 hg => by rw [← hmin.out]; simp [execOp, h1, h2, go_sem]) ?_
      refine GW.bin (.bool true) rfl ⟨41, by kernel_rfl, by kernel_rfl, fun _ _ h => h⟩ rfl (kn (t := 42) (j := 2) (by kernel_rfl)) (kn (t := 47) (j := 7) (by kernel_rfl)) (fun w' => run_eql_int rfl _ _ _ w') ?_
      refine GW.pick (b := true) rfl trivial rfl (kn (t := 41) (j := 1) (by kernel_rfl)) (kn (t := 48) (j := 8) (by kernel_rfl)) (eqv_lasts _) ?_
      refine GW.mv rfl trivial (.inl rfl) (kn (t := 49) (j := 9) (by kernel_rfl)) (eqv_lasts _) ?_
      refine GW.mv rfl ⟨50, by kernel_rfl, by kernel_rfl, fun _ _ h => h⟩ (.inl rfl) (kn0' (t := 0) (c := .slice A l.length c) (by kernel_rfl) rfl (isB_lasts l) (⟨A, c, rfl, hc, hm, hrW⟩)) (isB_lasts l) ?_
      refine GW.call1 (eqv (.agg (vs (sk l)))) rfl ⟨50, by kernel_rfl, by kernel_rfl, fun _ _ h => h⟩ rfl Try.func9 (by kernel_rfl) (by kernel_rfl) (eqv_lasts _) (kn (t := 51) (j := 11) (by kernel_rfl)) (fun v w' hg hv => ?_) ?_
      · obtain ⟨A', c', rfl, h1, h2, hr⟩ := hv
        refine (of_any A' c' l (by omega) h1 h2 w' hr).mono ?_
        rintro e w4 ⟨rfl, hg2⟩
        exact ⟨_, rfl, rfl, hg2⟩
      refine GW.mv rfl ⟨50, by kernel_rfl, by kernel_rfl, fun _ _ h => h⟩ (.inl rfl) (kn0' (t := 0) (c := .slice A l.length c) (by kernel_rfl) rfl (isB_lasts l) (⟨A, c, rfl, hc, hm, hrW⟩)) (isB_lasts l) ?_
      refine GW.bs (l) rfl ⟨50, by kernel_rfl, by kernel_rfl, fun _ _ h => h⟩ rfl Try.underlying22 byteType.1 Try.underlying9 (kn (t := 53) (j := 13) (by kernel_rfl)) ?_
      refine GW.call1 (eqv (.agg (vs (sk l)))) rfl ⟨50, by kernel_rfl, by kernel_rfl, fun _ _ h => h⟩ rfl Try.func10 (by kernel_rfl) (by kernel_rfl) (eqv_lasts _) (kn (t := 54) (j := 14) (by kernel_rfl)) (fun v w' hg hv => ?_) ?_
      · obtain rfl : v = _ := hv
        refine (refOf_any l w' (by omega)).mono ?_
        rintro e w2 ⟨rfl, hg2⟩
        exact ⟨_, rfl, rfl, hg2⟩
      refine GW.bin (.bool true) rfl ⟨50, by kernel_rfl, by kernel_rfl, fun _ _ h => h⟩ rfl (kn (t := 52) (j := 12) (by kernel_rfl)) (kn (t := 55) (j := 15) (by kernel_rfl)) (fun w' => by rw [eq_agg _ _ (sk_length l) (sk_length l)]; simp) ?_
      refine GW.pick (b := true) rfl trivial rfl (kn (t := 50) (j := 10) (by kernel_rfl)) (kn (t := 56) (j := 16) (by kernel_rfl)) (eqv_lasts _) ?_
      refine GW.tail (m := 18) (by simp) (by kernel_rfl) (by kernel_rfl) (fun w' hg => ?_)
      intro v0 _ v1 _ v2 _ v3 _ v4 _ v5 _ v6 _ v7 _ v8 _ v9 _ v10 _ v11 _ v12 _ v13 _ v14 _ v15 _ v16 _ v17 h17
      obtain rfl : v17 = (.bool true) := h17
      simp only [GFin, List.take_succ_cons, List.take_zero, List.drop_succ_cons, List.drop_zero, Act.put, List.setIfInBounds_toArray, List.set_cons_succ, List.set_cons_zero]
      have e1 := b1.out.below hg (show w.heap.size + 1 < W.heap.size by omega)
      have c1 := e1.cell 0
      have f1 := e1.frozen 0
      have hKg := (hg.block D hKlt).trans hK
      replace e1 := Lib.hid e1
      replace hKg := Lib.hid hKg
      replace hg := Lib.hid hg
      clear c0 c3 c4 hK hrW hmin b1
      go_wp2
      have hK' := (KeepsOthers.setCell w' ⟨w.heap.size + 1, 0, none⟩ (.bool true)).same D _ hKg.out rfl
      refine ⟨by simp, .inl ⟨_, _, rfl, run_takeDeferred hK', ?_⟩⟩
      have r1 := cell_kept ((Blk.set_ e1.out 0 (.bool true)).cell 0) (grownBy_putObj' _ D (.deferred none)) (fun r e => by cases e; exact ⟨_, hK', rfl⟩)
      refine ⟨.bool true, ?_, _, rfl, rfl, ((hgW.trans (hg.out.mono hgW.size)).setCell (p := ⟨w.heap.size + 1, 0, none⟩) (by simp) _).trans (belowK_b (w := w) (Nat.le_refl _) _ D _ _ (by omega) hK' rfl rfl)⟩
      simp [results, Try.f3, go_sem, r1]
  · have k120 : (120 : Int) < (l.length : Int) := by omega
    have g0 := Lib.hid (((Gr.refl w).alloc (.cells #[.int .u8 (n8 y)] 5)).alloc (.cells #[.bool false] 4))
    have b1 := Blk.new (w.alloc (.cells #[.int .u8 (n8 y)] 5)) 4 #[.bool false]
    rw [World.size_alloc] at b1
    replace b1 := Lib.hid b1
    go_enter Try.func3, Try.ntmps3
    go_wp2_with fail
    refine (haw.out _).mono ?_
    rintro e w3 ⟨v, rfl, hv, hg⟩
    obtain rfl : v = .bool true := hv
    have b3 := blk_more b1.out hg
    have c3 := b3.cell 0
    have f3 := b3.frozen 0
    have hgh := Lib.hid hg
    clear hg
    go_wp2
    refine bodyPost_ret (v := .bool true) (by simp [results, Try.results3, go_sem, (b3.set_ 0 (.bool true)).cell 0]) rfl ⟨_, rfl, rfl, ?_⟩
    exact (Gr.trans g0.out hgh.out).setCell (p := ⟨w.heap.size + 1, 0, none⟩) (by simp <;> omega) _
end Sk
end Go.Proofs.Ytogpcgbbifclmaa

