/- The walk of way.put. No condition but sizes. -/
import Derived.Test.YtpkbdodclkgjpaaLnkUp
set_option linter.unusedVariables false
set_option linter.unusedSimpArgs false
namespace Go.Proofs.Ytpkbdodclkgjpaa
open Go Go.RowKit Go.Shelf W
namespace Ln
theorem gr_drew {W X : World} (h : Gr W.drew X) : Gr W X := ⟨h.os, h.tape, h.output, h.size, h.block⟩
/-- One packet's cells, read out of a new block. -/
theorem new1 (w : World) (r : Value × Value) : Reads (w.alloc (.cells #[r.1, r.2] 63)) (w.heap.size + 1) 2 (some ⟨w.heap.size, 0, none⟩) 1 (pcs [r]) := by
  refine ⟨rfl, fun _ => ⟨_, rfl, Nat.lt_succ_self _, fun j u hu => ?_⟩⟩
  have ha : (⟨w.heap.size, 0, none⟩ : Addr).add j = ⟨w.heap.size, j, none⟩ := by unfold Addr.add; split <;> simp_all
  rw [ha, (Blk.new w _ _).cell]
  simpa [pcs] using hu
def one2 (a b : Value) : Prop := ∀ u ∈ pcs [(a, b)], u.oneCell' = true
theorem one2_pk (A : Option Addr) (n c : Nat) (t : Bool) : one2 (.slice A n c) (.bool t) := fun u hu => by
  have : u = .slice A n c ∨ u = .bool t := by simpa [pcs] using hu
  rcases this with rfl | rfl <;> rfl
theorem grown_drew {W X : World} {q : Option Nat} (h : W.drew.grownBy X q) : W.grownBy X q := ⟨h.os, h.tape, h.output, h.size, h.block⟩
theorem put_fin {w w9 : World} {g o : Nat} {cs : Array Value} {v v9 : Value} {rows : List (Value × Value)} {a : Way} {r : Value × Value} {p : Pk} (hb9 : Blk w9 g 54 cs) (hy : Wy w g o cs v rows a) (hb : Blk w g 54 cs) (hp : pkc w r p) (K9 : K2 g v.ownBlock w w9)
    (A9 : Option Addr) (c9 : Nat) (hv9 : v9 = .slice A9 (rows.length + 1) c9) (o9 : OR 63 2 w9 (g + 1) v9 (rows.length + 1) (pcs (rows ++ [r]))) (n9 : ∀ n, v9.ownBlock = some n → v.ownBlock = some n ∨ w.heap.size ≤ n) :
    ∃ cs' v' rows', Blk (w9.setCell ⟨g, o, none⟩ v9) g 54 cs' ∧ Wy (w9.setCell ⟨g, o, none⟩ v9) g o cs' v' rows' ⟨a.l ++ [p], a.s, a.x⟩ ∧ UpE w (w9.setCell ⟨g, o, none⟩ v9) g o v cs cs' v' := by
  have hlen : (rows ++ [r]).length = rows.length + 1 := by simp
  have U := (UpE.store (⟨fun _ _ => rfl, K9, n9⟩ : UpE w w9 g o v cs cs v9) o (Nat.le_refl _) (by omega) v9 v9 n9)
  have KK := ku_of_k2 U.k2 hb (op_typ hy.os)
  refine ⟨cs.setIfInBounds o v9, v9, rows ++ [r], hb9.set_ o v9, ⟨wy_at hy.c0, wy_ne hy.c1 (by omega), wy_ne hy.c2 (by omega), ⟨A9, c9, by rw [hv9, hlen]⟩, ?_, (hy.pr.ku KK).snoc (hp.ku KK)⟩, U⟩
  refine op_kb (b := g) ?_ ((Kb.refl g w9).set o v9) (by omega)
  unfold OP
  rw [hlen]
  exact o9
set_option maxRecDepth 100000 in
set_option maxHeartbeats 8000000 in
theorem put_few (g o : Nat) (cs : Array Value) (v : Value) (rows : List (Value × Value)) (a : Way) (w : World) (hb : Blk w g 54 cs) (hy : Wy w g o cs v rows a) (hl : a.l.length < 16) (Ap : Option Addr) (np cp : Nat) (tp : Bool) (p : Pk) (hp : pkc w (.slice Ap np cp, .bool tp) p) :
    Calls Try.prog 22 #[.pointer (some ⟨g, o, none⟩), .agg #[.slice Ap np cp, .bool tp]] w fun e w' => e = .returned (.tuple #[]) ∧
      ∃ cs' v' rows', Blk w' g 54 cs' ∧ Wy w' g o cs' v' rows' (putW a p) ∧ UpE w w' g o v cs cs' v' := by
  obtain ⟨A, c, rfl⟩ := hy.sh
  have hlt := hb.lt
  have hn : rows.length < 16 := by rw [hy.pr.len]; exact hl
  have hni : ¬ (16 ≤ (rows.length : Int)) := by omega
  have B1 := hb.alloc (.cells #[.slice Ap np cp, .bool tp] 63)
  have c0 : (w.alloc (.cells #[.slice Ap np cp, .bool tp] 63)).cell? ⟨g, o, none⟩ = some (.slice A rows.length c) := by rw [B1.cell, hy.c0]
  have N1 := Blk.new w 63 #[.slice Ap np cp, .bool tp]
  have e0 := N1.cell 0
  have e1 := N1.cell 1
  have g2 := ((Gr.refl w).alloc (.cells #[.slice Ap np cp, .bool tp] 63)).alloc (.cells #[.slice Ap np cp, .bool tp] 63)
  have o1 := Lib.hid (OR.below hy.os g2)
  have r1 := new1 (w.alloc (.cells #[.slice Ap np cp, .bool tp] 63)) (.slice Ap np cp, .bool tp)
  rw [World.size_alloc] at r1
  replace r1 := Lib.hid r1
  have b2 := Lib.hid (B1.alloc (.cells #[.slice Ap np cp, .bool tp] 63))
  have K1 := Lib.hid ((K2.refl g (Value.slice A rows.length c).ownBlock w).gr g2)
  have hng : Hid ((Value.slice A rows.length c).ownBlock ≠ some g) := Lib.hid (fun e => absurd (World.ownsRow.lt hy.os g e).1 (by omega))
  have hsz : w.heap.size + 1 + 1 = (((w.alloc (.cells #[.slice Ap np cp, .bool tp] 63)).alloc (.cells #[.slice Ap np cp, .bool tp] 63))).heap.size := by simp
  replace hsz := Lib.hid hsz
  have c2 : ((w.alloc (.cells #[.slice Ap np cp, .bool tp] 63)).alloc (.cells #[.slice Ap np cp, .bool tp] 63)).cell? ⟨g, o, none⟩ = some (.slice A rows.length c) := by rw [b2.out.cell, hy.c0]
  clear B1 N1 g2
  replace hy := Lib.hid hy
  replace hp := Lib.hid hp
  replace hb := Lib.hid hb
  go_enter Try.func22, Try.ntmps22
  go_wp2
  go_region_law (refine step_append_full (base := g + 1) (n := rows.length) (v := .slice A rows.length c) (xs := pcs rows) rfl (.tmp 23) (.tmp 25) 49 rfl Try.underlying49 pkRow rfl (by exact o1.out) (w.heap.size + 1 + 1) (some ⟨w.heap.size + 1, 0, none⟩) 1 1 (pcs [(.slice Ap np cp, .bool tp)]) rfl (by exact r1.out) (one2_pk _ _ _ _) (by unfold maxLen; omega) (by omega) (by simp <;> omega) (pcs (rows ++ [(.slice Ap np cp, .bool tp)])) (pcs_append _ _) (rows.length + 1) rfl ?_; intro A9 c9 w9 o9 k9 n9; have k9' := grown_drew k9; have K9 := Lib.hid (K1.out.row k9' (fun n hn => .inr (.inl hn.symm))); have b9 : Blk w9 g 54 cs := (World.grownBy.block k9' g b2.out.lt (fun e => hng.out e.symm)).trans b2.out; have f9 := b9.frozen o; have d9 : w9.cell? ⟨g, o, none⟩ = some (.slice A rows.length c) := (by rw [b9.cell, hy.out.c0]); replace b9 := Lib.hid b9; replace o9 := Lib.hid o9; replace n9 := Lib.hid n9; clear k9 k9' c2 r1 o1 K1 b2 e0 e1)
  all_goals
    go_wp2
    go_end0
    refine ⟨rfl, ?_⟩
    unfold putW
    rw [if_neg (by omega)]
    refine put_fin b9.out hy.out hb.out hp.out K9.out A9 c9 rfl o9.out (fun n hn => ?_)
    rcases n9.out with h1 | h1
    · exact .inl (h1.symm.trans hn)
    · rw [h1] at hn
      have hn := Option.some.inj hn
      exact .inr (by rw [← hn]; exact Nat.le_trans (by omega) (Nat.le_of_eq hsz.out))
theorem take_way (g o : Nat) (cs : Array Value) (v : Value) (rows : List (Value × Value)) (a : Way) (w : World) (hb : Blk w g 54 cs) (hy : Wy w g o cs v rows a) (i : Nat) (hi : i < a.l.length) (hn : a.l.length ≤ 1000) :
    Calls Try.prog 24 #[.pointer (some ⟨g, o, none⟩), .int .i64 (i : Int)] w fun e w' => ∃ Ai ni ci ti, e = .returned (.agg #[.slice Ai ni ci, .bool ti]) ∧ pkc w (.slice Ai ni ci, .bool ti) a.l[i] ∧
      ∃ cs' v' rows', Blk w' g 54 cs' ∧ Wy w' g o cs' v' rows' ⟨a.l.eraseIdx i, a.s, a.x⟩ ∧ UpE w w' g o v cs cs' v' ∧ Kb g w w' := by
  obtain ⟨A, c, rfl⟩ := hy.sh
  have hi' : i < rows.length := by rw [hy.pr.len]; exact hi
  obtain ⟨Ai, ci, hri, h1, h2, h3⟩ := hy.pr.at_ i hi' hi
  refine (take_any g o cs A c rows i w hb hy.c0 hy.os (pcs_one rows w a.l hy.pr) hi' Ai _ ci _ hri (by rw [hy.pr.len]; exact hn)).mono ?_
  rintro e w' ⟨rfl, A', c', hb', ho', hn', hk'⟩
  have U : UpE w w' g o (.slice A rows.length c) cs (cs.setIfInBounds o (.slice A' (rows.eraseIdx i).length c')) (.slice A' (rows.eraseIdx i).length c') :=
    ⟨fun j hj => by rw [Array.getElem?_setIfInBounds_ne (by omega)], (K2.refl _ _ _).kb hk' (.inl rfl), fun n hn => .inr (hn' n hn)⟩
  refine ⟨_, _, _, _, by rw [hri], ⟨Ai, ci, rfl, h1, h2, h3⟩, _, _, rows.eraseIdx i, hb', ⟨wy_at hy.c0, wy_ne hy.c1 (by omega), wy_ne hy.c2 (by omega), ⟨A', c', rfl⟩, ho', (hy.pr.ku (ku_of_k2 U.k2 hb (op_typ hy.os))).erase i⟩, U, hk'⟩
set_option maxRecDepth 100000 in
set_option maxHeartbeats 8000000 in
theorem put_full (g o : Nat) (cs : Array Value) (v : Value) (rows : List (Value × Value)) (a : Way) (w : World) (hb : Blk w g 54 cs) (hy : Wy w g o cs v rows a) (hl : 16 ≤ a.l.length) (hl2 : a.l.length ≤ 1000) (hx : a.x < 1000000000000) (Ap : Option Addr) (np cp : Nat) (tp : Bool) (p : Pk) (hp : pkc w (.slice Ap np cp, .bool tp) p) :
    Calls Try.prog 22 #[.pointer (some ⟨g, o, none⟩), .agg #[.slice Ap np cp, .bool tp]] w fun e w' => e = .returned (.tuple #[]) ∧
      ∃ cs' v' rows', Blk w' g 54 cs' ∧ Wy w' g o cs' v' rows' (putW a p) ∧ UpE w w' g o v cs cs' v' := by
  obtain ⟨A, c, rfl⟩ := hy.sh
  have hlt := hb.lt
  have hn : 16 ≤ rows.length := by rw [hy.pr.len]; exact hl
  have hni : (16 ≤ (rows.length : Int)) := by omega
  have B1 := hb.alloc (.cells #[.slice Ap np cp, .bool tp] 63)
  have N1 := Lib.hid (Blk.new w 63 #[.slice Ap np cp, .bool tp])
  have g1 := (Gr.refl w).alloc (.cells #[.slice Ap np cp, .bool tp] 63)
  have c0 : (w.alloc (.cells #[.slice Ap np cp, .bool tp] 63)).cell? ⟨g, o, none⟩ = some (.slice A rows.length c) := by rw [B1.cell, hy.c0]
  have con := Lib.hid (take_way g o cs _ rows a _ B1 (hy.gr g1) 0 (by omega) hl2)
  replace g1 := Lib.hid g1
  replace hy := Lib.hid hy
  replace hp := Lib.hid hp
  replace hb := Lib.hid hb
  clear B1
  go_enter Try.func22, Try.ntmps22
  go_wp2_with fail
  refine con.out.mono ?_
  rintro e w2 ⟨Ai, ni, ci, ti, rfl, _, cs2, v2, rows2, b2, y2, u2, k2⟩
  clear con c0 hn hni
  obtain ⟨A2, c2, rfl⟩ := y2.sh
  have l2 : rows2.length ≤ 1000 := by
    have h : rows2.length = (a.l.eraseIdx 0).length := y2.pr.len
    rw [List.length_eraseIdx] at h
    split at h <;> omega
  have x2 : w2.cell? ⟨g, o + 2, none⟩ = some (.int .i64 (a.x : Int)) := by rw [b2.cell, y2.c2]
  have f2 := b2.frozen (o + 2)
  obtain ⟨cs3, hcs3⟩ : ∃ x, x = cs2.setIfInBounds (o + 2) (.int .i64 ((a.x : Int) + 1)) := ⟨_, rfl⟩
  have B3 : Blk (w2.setCell ⟨g, o + 2, none⟩ (.int .i64 ((a.x : Int) + 1))) g 54 cs3 := by rw [hcs3]; exact b2.set_ (o + 2) _
  have U3 := Lib.hid ((((UpE.refl w g o (.slice A rows.length c) cs).gr g1.out).trans u2).store (o + 2) (by omega) (by omega) (.int .i64 ((a.x : Int) + 1)) _ ((((UpE.refl w g o (.slice A rows.length c) cs).gr g1.out).trans u2).own))
  rw [← hcs3] at U3
  have N3 := (k2.blk N1.out (by omega)).far (p := ⟨g, o + 2, none⟩) (show w.heap.size ≠ g by omega) (.int .i64 ((a.x : Int) + 1))
  have y3 : Wy (w2.setCell ⟨g, o + 2, none⟩ (.int .i64 ((a.x : Int) + 1))) g o cs3 (.slice A2 rows2.length c2) rows2 ⟨a.l.eraseIdx 0, a.s, a.x + 1⟩ := by
    have kk : Kb g w2 (w2.setCell ⟨g, o + 2, none⟩ (.int .i64 ((a.x : Int) + 1))) := (Kb.refl g w2).set (o + 2) _
    refine ⟨by rw [hcs3]; exact wy_ne y2.c0 (by omega), by rw [hcs3]; exact wy_ne y2.c1 (by omega), by rw [hcs3]; exact wy_at y2.c2, ⟨A2, c2, rfl⟩, op_kb y2.os kk (by omega), y2.pr.ku (ku_of_k2 ((K2.refl g none w2).kb kk (.inl rfl)) b2 (fun n h => by cases h))⟩
  have hp3 := Lib.hid (hp.out.ku (ku_of_k2 U3.out.k2 hb.out (op_typ hy.out.os)))
  have lt3 := B3.lt
  have hxw : (a.x : Int) + 1 ≤ 1000000000000 := by omega
  have hxn : -1000 ≤ (a.x : Int) := by omega
  clear u2 k2 y2 b2 hcs3 N1
  go_wp2
  generalize w2.setCell ⟨g, o + 2, none⟩ (.int .i64 ((a.x : Int) + 1)) = W at B3 U3 N3 y3 hp3 lt3 ⊢
  have e0 := N3.cell 0
  have e1 := N3.cell 1
  have c3 : W.cell? ⟨g, o, none⟩ = some (.slice A2 rows2.length c2) := by rw [B3.cell, y3.c0]
  have g2 := (Gr.refl W).alloc (.cells #[.slice Ap np cp, .bool tp] 63)
  have o1 := Lib.hid (OR.below y3.os g2)
  have r1 := Lib.hid (new1 W (.slice Ap np cp, .bool tp))
  have b2 := Lib.hid (B3.alloc (.cells #[.slice Ap np cp, .bool tp] 63))
  have K1 := Lib.hid ((K2.refl g (Value.slice A2 rows2.length c2).ownBlock W).gr g2)
  have hng : Hid ((Value.slice A2 rows2.length c2).ownBlock ≠ some g) := Lib.hid (fun e => absurd (World.ownsRow.lt y3.os g e).1 (by omega))
  have hsz : W.heap.size + 1 = (W.alloc (.cells #[.slice Ap np cp, .bool tp] 63)).heap.size := by simp
  replace hsz := Lib.hid hsz
  have c2' : (W.alloc (.cells #[.slice Ap np cp, .bool tp] 63)).cell? ⟨g, o, none⟩ = some (.slice A2 rows2.length c2) := by rw [b2.out.cell, y3.c0]
  replace y3 := Lib.hid y3
  replace B3 := Lib.hid B3
  clear N3 g2
  go_region_law (refine step_append_full (base := g + 1) (n := rows2.length) (v := .slice A2 rows2.length c2) (xs := pcs rows2) rfl (.tmp 23) (.tmp 25) 49 rfl Try.underlying49 pkRow rfl (by exact o1.out) (W.heap.size + 1) (some ⟨W.heap.size, 0, none⟩) 1 1 (pcs [(.slice Ap np cp, .bool tp)]) rfl (by exact r1.out) (one2_pk _ _ _ _) (by unfold maxLen; omega) (by omega) (by simp <;> omega) (pcs (rows2 ++ [(.slice Ap np cp, .bool tp)])) (pcs_append _ _) (rows2.length + 1) rfl ?_; intro A9 c9 w9 o9 k9 n9; have k9' := grown_drew k9; have K9 := Lib.hid (K1.out.row k9' (fun n hn => .inr (.inl hn.symm))); have b9 : Blk w9 g 54 cs3 := (World.grownBy.block k9' g b2.out.lt (fun e => hng.out e.symm)).trans b2.out; have f9 := b9.frozen o; have d9 : w9.cell? ⟨g, o, none⟩ = some (.slice A2 rows2.length c2) := (by rw [b9.cell, y3.out.c0]); replace b9 := Lib.hid b9; replace o9 := Lib.hid o9; replace n9 := Lib.hid n9; clear k9 k9' c2' c3 r1 o1 K1 b2 e0 e1)
  all_goals
    go_wp2
    go_end0
    refine ⟨rfl, ?_⟩
    unfold putW
    rw [if_pos (by omega)]
    obtain ⟨cs9, v9, rr9, q1, q2, q3⟩ := put_fin b9.out y3.out B3.out hp3.out K9.out A9 c9 rfl o9.out (fun n hn => by
      rcases n9.out with h1 | h1
      · exact .inl (h1.symm.trans hn)
      · rw [h1] at hn
        have hn := Option.some.inj hn
        exact .inr (by rw [← hn]; exact Nat.le_trans (by omega) (Nat.le_of_eq hsz.out)))
    exact ⟨cs9, v9, rr9, q1, q2, U3.out.trans q3⟩
theorem put_any (g o : Nat) (cs : Array Value) (v : Value) (rows : List (Value × Value)) (a : Way) (w : World) (hb : Blk w g 54 cs) (hy : Wy w g o cs v rows a) (hl2 : a.l.length ≤ 1000) (hx : a.x < 1000000000000) (Ap : Option Addr) (np cp : Nat) (tp : Bool) (p : Pk) (hp : pkc w (.slice Ap np cp, .bool tp) p) :
    Calls Try.prog 22 #[.pointer (some ⟨g, o, none⟩), .agg #[.slice Ap np cp, .bool tp]] w fun e w' => e = .returned (.tuple #[]) ∧
      ∃ cs' v' rows', Blk w' g 54 cs' ∧ Wy w' g o cs' v' rows' (putW a p) ∧ UpE w w' g o v cs cs' v' := by
  rcases Nat.lt_or_ge a.l.length 16 with h | h
  · exact put_few g o cs v rows a w hb hy h Ap np cp tp p hp
  · exact put_full g o cs v rows a w hb hy h hl2 hx Ap np cp tp p hp
end Ln
end Go.Proofs.Ytpkbdodclkgjpaa

