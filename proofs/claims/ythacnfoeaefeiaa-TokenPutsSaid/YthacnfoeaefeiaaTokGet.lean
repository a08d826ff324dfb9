/- The walk of token.Get. No condition but sizes. -/
import Derived.Test.YthacnfoeaefeiaaTokOne
import Derived.Test.YthacnfoeaefeiaaTokJoin
set_option linter.unusedVariables false
set_option linter.unusedSimpArgs false
namespace Go.Proofs.Ythacnfoeaefeiaa
open Go Go.RowKit W Vint
theorem OR.kb {E : TypeId} {size n base g : Nat} {w w' : World} {v : Value} {xs : List Value} (h : OR E size w base v n xs) (hk : Kb g w w') (hg : g < base) : OR E size w' base v n xs :=
  World.ownsRow.kept h (row := some g) hk (.inr (fun he => by
    have := (World.ownsRow.lt h g he).1
    omega))
theorem Vint.Rdr.below {w w' : World} {g B : Nat} {s : RS} (h : Vint.Rdr w g s) (hb : Below B w w') (hg : g < B) : Vint.Rdr w' g s := by
  obtain ⟨A, c, h1, h2, h3, h4⟩ := h
  exact ⟨A, c, h1.below hb hg, h2.below (Below.mono hb (by omega)), h3, h4⟩
namespace Tk
def OutG (w : World) (r : List Tok × Nat) : Ending → World → Prop := fun e w' => ∃ A c, e = .returned (.tuple #[.slice A r.1.length c, .int .i64 (r.2 : Int)]) ∧ OT 39 w' w.heap.size (.slice A r.1.length c) r.1 ∧ Gr w w'
theorem getsF_at (n : Nat) (l : List UInt8) (out : List Tok) (R : List Tok × Nat) (hn : l.length < n) (h : getsF n (l, 0) out = R) :
    ∃ m, n = m + 1 ∧ (if l.length = 0 then (out, 0) else if (oneT (l, 0)).1.2 ≠ 0 then ([], (oneT (l, 0)).1.2) else if right (oneT (l, 0)).2 then getsF m (oneT (l, 0)).1 (out ++ [(oneT (l, 0)).2]) else ([], 3)) = R := by
  obtain ⟨m, rfl⟩ : ∃ m, n = m + 1 := ⟨n - 1, by omega⟩
  exact ⟨m, rfl, h⟩
structure GI (w wr : World) (g : Nat) (R : List Tok × Nat) (L : Nat) (v : Value) : Prop where
  inv : ∃ n sl out A c, v = .slice A out.length c ∧ sl.length < n ∧ getsF n (sl, 0) out = R ∧ out.length + sl.length ≤ L ∧ OT 39 wr (g + 1) (.slice A out.length c) out ∧ Vint.Rdr wr g (sl, 0) ∧ Below w.heap.size w wr
def leftOf (wr : World) (g : Nat) : Nat := match wr.cell? ⟨g, 0, none⟩ with | some (.slice _ n _) => n | _ => 0
theorem leftOf_eq {wr : World} {g : Nat} {s : RS} (h : Vint.Rdr wr g s) : leftOf wr g = s.1.length := by
  obtain ⟨A, c, hb, _⟩ := h
  unfold leftOf
  have : wr.cell? ⟨g, 0, none⟩ = some (.slice A s.1.length c) := hb.cell 0
  rw [this]
set_option maxRecDepth 100000 in
set_option maxHeartbeats 4000000 in
theorem getw_any (A : Option Addr) (c : Nat) (l : List UInt8) (w : World) (hs : l.length ≤ 1000000) (hr : RB w w.heap.size A l) :
    Calls Try.prog 19 #[.slice A l.length c] w (OutG w (gets l)) := by
  have hrd := Lib.hid (read_any A c l w (by omega) hr)
  clear hr
  obtain ⟨R, hR⟩ : ∃ R, R = gets l := ⟨_, rfl⟩
  rw [← hR]
  have hR' := Lib.hid hR
  clear hR
  go_enter Try.func19, Try.ntmps19
  go_wp2_with fail
  go_at_call 28
  refine hrd.out.mono ?_
  rintro e w0 ⟨g, rfl, hgw, hR0, hg0⟩
  have hg0' := Lib.hid hg0
  have hR0' := Lib.hid hR0
  have hglt := hR0.lt
  have hsz0 := Below.size hg0
  clear hrd hg0 hR0
  go_wp2
  go_loopw [4, 6, 7] (fun out _ _ wr => GI w wr g R l.length out) (fun _ _ _ wr => leftOf wr g)
  case atStart => exact ⟨l.length + 1, l, [], none, 0, rfl, by omega, hR'.out.symm, by simp, OT.nil_ _ _ _, hR0'.out, hg0'.out⟩
  case round =>
    obtain ⟨n, sl, out, A0, c0, rfl, hn, hF, hlen, ho, hRd, hg⟩ := hrel.inv
    clear hrel
    obtain ⟨m, rfl, hF2⟩ := getsF_at n sl out R hn hF
    clear hF
    have hF := hF2
    clear hF2
    have hlo := leftOf_eq hRd
    have hla := Lib.hid (left_any g (sl, 0) wr hRd)
    have hszr := Below.size hg
    have hgr := hRd.lt
    have hRd' := Lib.hid hRd
    have ho' := Lib.hid ho
    have hg' := Lib.hid hg
    clear hRd ho hg
    by_cases h0 : sl.length = 0
    · rw [if_pos h0] at hF
      subst hF
      have h0' : ¬ (0 : Int) < (sl.length : Int) := by omega
      go_wp2_with fail
      go_at_call 29
      refine hla.out.mono ?_
      rintro e w1 ⟨rfl, rfl⟩
      clear hla
      go_wp2
      go_ret2
      exact ⟨A0, c0, rfl, OR.base_le ho'.out (by omega), hg'.out⟩
    · rw [if_neg h0] at hF
      have hone := Lib.hid (one_any g (sl, 0) wr hRd'.out)
      have hbd := oneT_bounds (sl, 0)
      have hst := oneT_stops sl
      have hls := oneT_less sl
      have h0' : (0 : Int) < (sl.length : Int) := by omega
      generalize oneT (sl, 0) = q at *
      obtain ⟨⟨l1, er⟩, t⟩ := q
      simp only at hF hbd hst hls
      obtain ⟨bf1, bf2, bm1, bm2, bd, _⟩ := hbd
      go_wp2_with fail
      go_at_call 29
      refine hla.out.mono ?_
      rintro e w1 ⟨rfl, rfl⟩
      clear hla
      go_wp2_with fail
      go_at_call 30
      refine hone.out.mono ?_
      rintro e w2 ⟨rfl, R2, k2⟩
      have hsz2 := k2.size
      have R3 := R2.gr ((Gr.refl w2).alloc (.cells #[.int .i64 t.f, .int .i64 t.m, .string ⟨t.d.toArray⟩] 39))
      have o3 := Lib.hid (OT.alloc (OR.kb ho'.out k2 (by omega)) (.cells #[.int .i64 t.f, .int .i64 t.m, .string ⟨t.d.toArray⟩] 39))
      have b3 := Lib.hid (Blk.new w2 39 #[.int .i64 t.f, .int .i64 t.m, .string ⟨t.d.toArray⟩])
      have g3 := Lib.hid (Below.alloc (Below.trans hg'.out (Below.mono (Kb.below k2 (by omega)) hgw)) (by omega) (.cells #[.int .i64 t.f, .int .i64 t.m, .string ⟨t.d.toArray⟩] 39) : Below w.heap.size w (w2.alloc (.cells #[.int .i64 t.f, .int .i64 t.m, .string ⟨t.d.toArray⟩] 39)))
      have hen := Lib.hid (end_any g (l1, er) _ R3)
      have hla2 := Lib.hid (left_any g (l1, er) _ R3)
      replace R3 := Lib.hid R3
      clear hone R2 k2 hRd' ho' hg'
      by_cases he : er = 0
      · rw [if_neg (by omega)] at hF
        subst he
        have hls := hls rfl
        have hro := Lib.hid (fun w => right_any t w ⟨by omega, by omega, by omega, by omega, by omega⟩)
        clear hst
        have x0 := b3.out.cell 0
        have x1 := b3.out.cell 1
        have x2 := b3.out.cell 2
        cases hrt : right t
        · rw [hrt, if_neg (by simp)] at hF
          rw [hrt] at hro
          subst hF
          replace hrt := Lib.hid hrt
          clear b3 o3
          by_cases hl0 : 0 < l1.length
          · have hed : ended (l1, 0) = 5 := by unfold ended; rw [if_pos ⟨rfl, hl0⟩]
            rw [hed] at hen
            have hl0' : ((l1.length : Int) == 0) = false := by simp; intro e; subst e; simp at hl0
            replace R3 := R3
            clear hed
            go_wp2_with fail
            go_at_call 31
            refine hen.out.mono ?_
            rintro e w4 ⟨rfl, rfl⟩
            clear hen
            go_wp2_with fail
            go_at_call 29
            refine hla2.out.mono ?_
            rintro e w4 ⟨rfl, rfl⟩
            clear hla2
            go_wp2_with fail
            go_at_call 17
            refine (hro.out _).mono ?_
            rintro e w5 ⟨rfl, g5⟩
            have G5 := Lib.hid (Below.trans g3.out (Below.mono g5 (Below.size g3.out)))
            clear hro g5 g3
            go_wp2
            go_ret2
            exact ⟨none, 0, rfl, OT.nil_ _ _ _, G5.out⟩
          · have hed : ended (l1, 0) = 0 := by unfold ended; rw [if_neg (fun h => hl0 h.2)]
            rw [hed] at hen
            clear hed hla2
            go_wp2_with fail
            go_at_call 31
            refine hen.out.mono ?_
            rintro e w4 ⟨rfl, rfl⟩
            clear hen
            go_wp2_with fail
            go_at_call 17
            refine (hro.out _).mono ?_
            rintro e w5 ⟨rfl, g5⟩
            have G5 := Lib.hid (Below.trans g3.out (Below.mono g5 (Below.size g3.out)))
            clear hro g5 g3
            go_wp2
            go_ret2
            exact ⟨none, 0, rfl, OT.nil_ _ _ _, G5.out⟩
        · rw [hrt, if_pos rfl] at hF
          rw [hrt] at hro
          replace hrt := Lib.hid hrt
          have hF' := Lib.hid hF
          clear hF
          by_cases hl0 : 0 < l1.length
          · have hed : ended (l1, 0) = 5 := by unfold ended; rw [if_pos ⟨rfl, hl0⟩]
            rw [hed] at hen
            have hl0' : ((l1.length : Int) == 0) = false := by simp; intro e; subst e; simp at hl0
            clear hed
            go_wp2_with fail
            go_at_call 31
            refine hen.out.mono ?_
            rintro e w4 ⟨rfl, rfl⟩
            clear hen
            go_wp2_with fail
            go_at_call 29
            refine hla2.out.mono ?_
            rintro e w4 ⟨rfl, rfl⟩
            clear hla2
            go_wp2_with fail
            go_at_call 17
            refine (hro.out _).mono ?_
            rintro e w5 ⟨rfl, g5⟩
            have G5 := Below.trans g3.out (Below.mono g5 (Below.size g3.out))
            have b5 := blk_more b3.out g5
            have z0 := b5.cell 0
            have z1 := b5.cell 1
            have z2 := b5.cell 2
            have hsz5 := Below.size G5
            have hsz6 := Below.size g5
            rw [World.size_alloc] at hsz6
            have oL := Lib.hid (OT.alloc (o3.out.below g5) (.cells #[.int .i64 t.f, .int .i64 t.m, .string ⟨t.d.toArray⟩] 39))
            have nL := Lib.hid (TR.new1 w5 39 t)
            have gL := Lib.hid (Below.alloc G5 hsz5 (.cells #[.int .i64 t.f, .int .i64 t.m, .string ⟨t.d.toArray⟩] 39))
            have rL := Lib.hid ((R3.out.gr g5).gr ((Gr.refl w5).alloc (.cells #[.int .i64 t.f, .int .i64 t.m, .string ⟨t.d.toArray⟩] 39)))
            clear hro g5 g3 G5 b5 b3 o3 R3 x0 x1 x2
            go_wp2_with (first
              | ((with_reducible refine wpList_isApp (.tmp 32) (.tmp 34) 25 rfl ?_); refine wpList_append_rowsN (v := .slice A0 out.length c0) rfl (.tmp 32) (.tmp 34) 25 rfl Try.underlying25 tokRow rfl (by exact oL.out) (w5.heap.size + 1) _ 1 1 (tcs [t]) rfl (by exact nL.out) (tcs_one_cell _) (by unfold maxLen; omega) (by omega) (by rw [World.size_alloc]; omega) (tcs (out ++ [t])) (tcs_append _ _) (out ++ [t]).length (by simp) ?_; intro A9 c9 w9 o9 b9))
            have G9 := Lib.hid (Below.trans gL.out (Below.mono b9 (by omega)))
            have R9 := Vint.Rdr.below rL.out b9 (by omega)
            have l9 := leftOf_eq R9
            replace R9 := Lib.hid R9
            replace o9 := Lib.hid o9
            clear oL nL gL rL b9
            go_wp2
            go_roundw
            case rel => exact ⟨m, l1, out ++ [t], A9, c9, by simp, by omega, hF'.out, by simp; omega, by unfold OT; simpa using o9.out, R9.out, G9.out⟩
            case measure => rw [l9, hlo]; exact hls trivial
          · have hed : ended (l1, 0) = 0 := by unfold ended; rw [if_neg (fun h => hl0 h.2)]
            rw [hed] at hen
            clear hed hla2
            go_wp2_with fail
            go_at_call 31
            refine hen.out.mono ?_
            rintro e w4 ⟨rfl, rfl⟩
            clear hen
            go_wp2_with fail
            go_at_call 17
            refine (hro.out _).mono ?_
            rintro e w5 ⟨rfl, g5⟩
            have G5 := Below.trans g3.out (Below.mono g5 (Below.size g3.out))
            have b5 := blk_more b3.out g5
            have z0 := b5.cell 0
            have z1 := b5.cell 1
            have z2 := b5.cell 2
            have hsz5 := Below.size G5
            have hsz6 := Below.size g5
            rw [World.size_alloc] at hsz6
            have oL := Lib.hid (OT.alloc (o3.out.below g5) (.cells #[.int .i64 t.f, .int .i64 t.m, .string ⟨t.d.toArray⟩] 39))
            have nL := Lib.hid (TR.new1 w5 39 t)
            have gL := Lib.hid (Below.alloc G5 hsz5 (.cells #[.int .i64 t.f, .int .i64 t.m, .string ⟨t.d.toArray⟩] 39))
            have rL := Lib.hid ((R3.out.gr g5).gr ((Gr.refl w5).alloc (.cells #[.int .i64 t.f, .int .i64 t.m, .string ⟨t.d.toArray⟩] 39)))
            clear hro g5 g3 G5 b5 b3 o3 R3 x0 x1 x2
            go_wp2_with (first
              | ((with_reducible refine wpList_isApp (.tmp 32) (.tmp 34) 25 rfl ?_); refine wpList_append_rowsN (v := .slice A0 out.length c0) rfl (.tmp 32) (.tmp 34) 25 rfl Try.underlying25 tokRow rfl (by exact oL.out) (w5.heap.size + 1) _ 1 1 (tcs [t]) rfl (by exact nL.out) (tcs_one_cell _) (by unfold maxLen; omega) (by omega) (by rw [World.size_alloc]; omega) (tcs (out ++ [t])) (tcs_append _ _) (out ++ [t]).length (by simp) ?_; intro A9 c9 w9 o9 b9))
            have G9 := Lib.hid (Below.trans gL.out (Below.mono b9 (by omega)))
            have R9 := Vint.Rdr.below rL.out b9 (by omega)
            have l9 := leftOf_eq R9
            replace R9 := Lib.hid R9
            replace o9 := Lib.hid o9
            clear oL nL gL rL b9
            go_wp2
            go_roundw
            case rel => exact ⟨m, l1, out ++ [t], A9, c9, by simp, by omega, hF'.out, by simp; omega, by unfold OT; simpa using o9.out, R9.out, G9.out⟩
            case measure => rw [l9, hlo]; exact hls trivial
      · rw [if_pos he] at hF
        have hl1 := hst he
        subst hl1
        have hed : ended ([], er) = er := by unfold ended; rw [if_neg (by simp)]
        rw [hed] at hen
        subst hF
        clear hls hed b3
        go_wp2_with fail
        go_at_call 31
        refine hen.out.mono ?_
        rintro e w4 ⟨rfl, rfl⟩
        clear hen
        have q1 : ((er : Int) == 0) = false := by simp; omega
        by_cases h5 : er = 5
        · subst h5
          go_wp2_with fail
          go_at_call 29
          refine hla2.out.mono ?_
          rintro e w4 ⟨rfl, rfl⟩
          clear hla2
          go_wp2
          go_ret2
          exact ⟨none, 0, rfl, OT.nil_ _ _ _, g3.out⟩
        · have q2 : ((er : Int) == 5) = false := by simp; omega
          clear hla2
          go_wp2
          go_ret2
          exact ⟨none, 0, rfl, OT.nil_ _ _ _, g3.out⟩
end Tk
end Go.Proofs.Ythacnfoeaefeiaa
