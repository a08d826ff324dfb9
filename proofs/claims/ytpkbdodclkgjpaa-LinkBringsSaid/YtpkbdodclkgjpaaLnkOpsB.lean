/- The walks of a link's calls that change it. No condition but sizes. -/
import Derived.Test.YtpkbdodclkgjpaaLnkOps
set_option linter.unusedVariables false
set_option linter.unusedSimpArgs false
namespace Go.Proofs.Ytpkbdodclkgjpaa
open Go Go.RowKit Go.Shelf W
namespace Ln
theorem or_kbE {E : TypeId} {size base b n : Nat} {X Y : World} {v : Value} {xs : List Value} (h : OR E size X base v n xs) (hk : Kb b X Y) (h2 : b < base) : OR E size Y base v n xs := by
  refine World.ownsRow.kept h hk ?_
  rcases h.2 with ⟨hv, _⟩ | ⟨g', cap, cur, hv, hg, hh, _⟩
  · exact .inl (by rw [hv]; rfl)
  · refine .inr fun e => ?_
    rw [hv] at e
    have : g' = b := Option.some.inj e
    omega
/-- A number of a way is set. -/
theorem wy_set1 {w : World} {g o : Nat} {cs : Array Value} {v : Value} {rows : List (Value × Value)} {a : Way} (hb : Blk w g 54 cs) (hy : Wy w g o cs v rows a) (n : Nat) (z : Int) (hz : z = (n : Int)) :
    Blk (w.setCell ⟨g, o + 1, none⟩ (.int .i64 z)) g 54 (cs.setIfInBounds (o + 1) (.int .i64 z)) ∧ Wy (w.setCell ⟨g, o + 1, none⟩ (.int .i64 z)) g o (cs.setIfInBounds (o + 1) (.int .i64 z)) v rows ⟨a.l, n, a.x⟩ ∧
      UpE w (w.setCell ⟨g, o + 1, none⟩ (.int .i64 z)) g o v cs (cs.setIfInBounds (o + 1) (.int .i64 z)) v ∧ KU w (w.setCell ⟨g, o + 1, none⟩ (.int .i64 z)) := by
  subst hz
  have kk : Kb g w (w.setCell ⟨g, o + 1, none⟩ (.int .i64 (n : Int))) := (Kb.refl g w).set (o + 1) _
  have ku := ku_of_k2 ((K2.refl g none w).kb kk (.inl rfl)) hb (fun n h => by cases h)
  exact ⟨hb.set_ (o + 1) _, ⟨wy_ne hy.c0 (by omega), wy_at hy.c1, wy_ne hy.c2 (by omega), hy.sh, op_kb hy.os kk (by omega), hy.pr.ku ku⟩, (UpE.refl w g o v cs).store (o + 1) (by omega) (by omega) _ v (fun n h => .inl h), ku⟩
theorem wy_set2 {w : World} {g o : Nat} {cs : Array Value} {v : Value} {rows : List (Value × Value)} {a : Way} (hb : Blk w g 54 cs) (hy : Wy w g o cs v rows a) (n : Nat) (z : Int) (hz : z = (n : Int)) :
    Blk (w.setCell ⟨g, o + 2, none⟩ (.int .i64 z)) g 54 (cs.setIfInBounds (o + 2) (.int .i64 z)) ∧ Wy (w.setCell ⟨g, o + 2, none⟩ (.int .i64 z)) g o (cs.setIfInBounds (o + 2) (.int .i64 z)) v rows ⟨a.l, a.s, n⟩ ∧
      UpE w (w.setCell ⟨g, o + 2, none⟩ (.int .i64 z)) g o v cs (cs.setIfInBounds (o + 2) (.int .i64 z)) v ∧ KU w (w.setCell ⟨g, o + 2, none⟩ (.int .i64 z)) := by
  subst hz
  have kk : Kb g w (w.setCell ⟨g, o + 2, none⟩ (.int .i64 (n : Int))) := (Kb.refl g w).set (o + 2) _
  have ku := ku_of_k2 ((K2.refl g none w).kb kk (.inl rfl)) hb (fun n h => by cases h)
  exact ⟨hb.set_ (o + 2) _, ⟨wy_ne hy.c0 (by omega), wy_ne hy.c1 (by omega), wy_at hy.c2, hy.sh, op_kb hy.os kk (by omega), hy.pr.ku ku⟩, (UpE.refl w g o v cs).store (o + 2) (by omega) (by omega) _ v (fun n h => .inl h), ku⟩
/-- What each change leaves. -/
def Post (w w' : World) (g k : Nat) (a b y : Way) : Prop := Lk w' g (setA k y a) (setB k y b) ∧ KT w w' ∧ Below g w w'
theorem field0 (A : Option Addr) (n c : Nat) (t : Bool) (w : World) : (Instr.field 63 (.agg #[.slice A n c, .bool t]) 0).run Try.prog w = .ok (.slice A n c) w := by kernel_rfl
set_option maxRecDepth 100000 in
set_option maxHeartbeats 4000000 in
theorem drop_k {g k : Nat} (hk : k < 2) {a b : Way} (w : World) (h : Lk w g a b) (i : Nat) (hi : i < (sel k a b).l.length) (hl : (sel k a b).l.length ≤ 1000) (hx : (sel k a b).x < 1000000000000) :
    Calls Try.prog 16 #[.pointer (some ⟨g, 0, none⟩), .int .i64 (k : Int), .int .i64 (i : Int)] w fun e w' => e = .returned (.bool true) ∧ Post w w' g k a b ⟨(sel k a b).l.eraseIdx i, (sel k a b).s, (sel k a b).x + 1⟩ := by
  obtain ⟨cs, v, rows, hb, hy, hout⟩ := h.open_ k hk
  unfold Post
  generalize sel k a b = y at *
  have h1 := Lib.hid (at_k g k hk w)
  have h2 := has_way g (3 * k) cs v rows y i w hb hy
  rw [decide_eq_true (by omega)] at h2
  replace h2 := Lib.hid h2
  have h3 := Lib.hid (take_way g (3 * k) cs v rows y w hb hy i hi hl)
  replace hout := Lib.hid hout
  clear h hb hy
  go_enter Try.func16, Try.ntmps16
  go_wp2_with fail
  refine h1.out.mono ?_
  rintro e w' ⟨rfl, rfl⟩
  go_wp2_with fail
  refine h2.out.mono ?_
  rintro e w' ⟨rfl, rfl⟩
  go_wp2_with fail
  refine h3.out.mono ?_
  rintro e w2 ⟨Ai, ni, ci, ti, rfl, _, cs2, v2, rows2, b2, y2, u2, k2⟩
  clear h1 h2 h3
  have x2 : w2.cell? ⟨g, 3 * k + 2, none⟩ = some (.int .i64 (y.x : Int)) := by rw [b2.cell, y2.c2]
  have f2 := b2.frozen (3 * k + 2)
  obtain ⟨b3, y3, u3, _⟩ := wy_set2 b2 y2 (y.x + 1) ((y.x : Int) + 1) (by omega)
  have fin := Lib.hid (hout.out _ _ _ _ _ b3 y3 (u2.trans u3))
  have hxw : (y.x : Int) + 1 ≤ 1000000000000 := by omega
  have hxn : -1000 ≤ (y.x : Int) := by omega
  clear b3 y3 u3 u2 k2 y2 b2 hout
  go_wp2
  go_ret
  exact ⟨rfl, fin.out⟩
set_option maxRecDepth 100000 in
set_option maxHeartbeats 4000000 in
theorem deliver_k {g k : Nat} (hk : k < 2) {a b : Way} (w : World) (h : Lk w g a b) (i : Nat) (hi : i < (sel k a b).l.length) (hl : (sel k a b).l.length ≤ 1000) (hp : ((sel k a b).l[i]).1.length ≤ 1000000) :
    Calls Try.prog 15 #[.pointer (some ⟨g, 0, none⟩), .int .i64 (k : Int), .int .i64 (i : Int)] w fun e w' => ∃ v, e = .returned (.tuple #[v, .bool true]) ∧ OB 5 w' w.heap.size v ((sel k a b).l[i]).1 ∧ Post w w' g k a b ⟨(sel k a b).l.eraseIdx i, (sel k a b).s, (sel k a b).x⟩ := by
  obtain ⟨cs, v, rows, hb, hy, hout⟩ := h.open_ k hk
  unfold Post
  have hlt := hb.lt
  generalize sel k a b = y at *
  have h1 := Lib.hid (at_k g k hk w)
  have h2 := has_way g (3 * k) cs v rows y i w hb hy
  rw [decide_eq_true (by omega)] at h2
  replace h2 := Lib.hid h2
  have g1 := (Gr.refl w).alloc (.cells #[] 5)
  have h3 := Lib.hid (take_way g (3 * k) cs v rows y _ (hb.alloc (.cells #[] 5)) (hy.gr g1) i hi hl)
  have ob := Lib.hid (OB.made (E := 5) (base := w.heap.size) w (Nat.le_refl _))
  have U1 := Lib.hid ((UpE.refl w g (3 * k) v cs).gr g1)
  have s1 : (w.alloc (.cells #[] 5)).heap.size = w.heap.size + 1 := by simp
  replace s1 := Lib.hid s1
  have hb1 := Lib.hid (hb.alloc (.cells #[] 5))
  have hy1 := Lib.hid (hy.gr g1)
  replace hout := Lib.hid hout
  clear h hb hy g1
  go_enter Try.func15, Try.ntmps15
  go_wp2_with fail
  refine h1.out.mono ?_
  rintro e w' ⟨rfl, rfl⟩
  go_wp2_with fail
  refine h2.out.mono ?_
  rintro e w' ⟨rfl, rfl⟩
  go_wp2_with fail
  refine h3.out.mono ?_
  rintro e w2 ⟨Ai, ni, ci, ti, rfl, hpk, cs2, v2, rows2, b2, y2, u2, k2⟩
  clear h1 h2 h3
  obtain ⟨Aj, cj, he, hc1, hc2, hub⟩ := hpk
  injection he with he1 he2
  injection he1 with he3 he4 he5
  subst he3
  subst he4
  subst he5
  have ku := ku_of_k2 u2.k2 hb1.out (op_typ hy1.out.os)
  have hfd : ∀ w : World, (Instr.field 63 (.agg #[.slice Ai y.l[i].1.length ci, .bool y.l[i].2]) 0).run Try.prog w = .ok (.slice Ai y.l[i].1.length ci) w := field0 _ _ _ _
  have rb := Lib.hid (hub.ku ku).rb
  have own := Lib.hid (or_kbE ob.out k2 hlt)
  have hsz : w'.heap.size ≤ w2.heap.size := by have := u2.k2.size; rw [s1.out] at this; omega
  have fin : Hid (∀ w9, Gr w2 w9 → Lk w9 g (setA k ⟨y.l.eraseIdx i, y.s, y.x⟩ a) (setB k ⟨y.l.eraseIdx i, y.s, y.x⟩ b) ∧ KT w' w9 ∧ Below g w' w9) := Lib.hid fun w9 g9 => hout.out _ _ _ _ _ (blk_more b2 g9) (y2.gr g9) ((U1.out.trans u2).gr g9)
  clear ku k2 u2 y2 b2 hb1 hy1 hout ob U1 s1 hub
  go_wp2_with (first
    | ((with_reducible refine wpList_isApp (.tmp 16) (.tmp 20) 44 rfl ?_); refine wpList_append_empty (g := w'.heap.size) (base := w'.heap.size) rfl (.tmp 16) (.tmp 20) 44 rfl Try.underlying44 byteRow rfl (by exact own.out) w2.heap.size Ai y.l[i].1.length ci (bvs y.l[i].1) rfl (by exact rb.out) (bvs_one _) (by unfold maxLen; omega) (by omega) hsz ?_; intro A9 c9 w9 o9 g9; replace o9 := Lib.hid o9; replace fin := Lib.hid (fin.out w9 g9); clear rb own g9))
  go_ret2
  exact ⟨_, rfl, o9.out, fin.out⟩
set_option maxRecDepth 100000 in
set_option maxHeartbeats 4000000 in
theorem double_k {g k : Nat} (hk : k < 2) {a b : Way} (w : World) (h : Lk w g a b) (i : Nat) (hi : i < (sel k a b).l.length) (hl : (sel k a b).l.length ≤ 1000) (hx : (sel k a b).x < 1000000000000) :
    Calls Try.prog 17 #[.pointer (some ⟨g, 0, none⟩), .int .i64 (k : Int), .int .i64 (i : Int)] w fun e w' => e = .returned (.bool true) ∧ Post w w' g k a b (putW (sel k a b) (sel k a b).l[i]) := by
  obtain ⟨cs, v, rows, hb, hy, hout⟩ := h.open_ k hk
  unfold Post
  generalize sel k a b = y at *
  have hi' : i < rows.length := by rw [hy.pr.len]; exact hi
  obtain ⟨Ai, ci, hri, q1, q2, q3⟩ := hy.pr.at_ i hi' hi
  have hpk : pkc w (.slice Ai y.l[i].1.length ci, .bool y.l[i].2) y.l[i] := ⟨Ai, ci, rfl, q1, q2, q3⟩
  have h1 := Lib.hid (at_k g k hk w)
  have h2 := has_way g (3 * k) cs v rows y i w hb hy
  rw [decide_eq_true (by omega)] at h2
  replace h2 := Lib.hid h2
  have h3 := Lib.hid (put_any g (3 * k) cs v rows y w hb hy hl hx Ai _ ci _ y.l[i] hpk)
  obtain ⟨A, c, hv⟩ := hy.sh
  have os := hy.os
  rw [hv] at os
  obtain ⟨ad, hA, hal, hab, e0, e1⟩ := op_at os hi'
  rw [hri] at e0 e1
  have c0 : w.cell? ⟨g, 3 * k, none⟩ = some (.slice (some ad) rows.length c) := by rw [hb.cell, hy.c0, hv, hA]
  replace hout := Lib.hid hout
  have hi0 : (0 : Int) ≤ (i : Int) := by omega
  have hi1 : (i : Int) < (rows.length : Int) := by omega
  clear h hb hy os hv hA q3 hpk hri
  go_enter Try.func17, Try.ntmps17
  go_wp2_with fail
  refine h1.out.mono ?_
  rintro e w' ⟨rfl, rfl⟩
  go_wp2_with fail
  refine h2.out.mono ?_
  rintro e w' ⟨rfl, rfl⟩
  go_wp2_with fail
  refine h3.out.mono ?_
  rintro e w2 ⟨rfl, cs2, v2, rows2, b2, y2, u2⟩
  have fin := Lib.hid (hout.out _ _ _ _ _ b2 y2 u2)
  clear h1 h2 h3 b2 y2 u2 hout c0 e0 e1
  go_wp2
  go_ret
  exact ⟨rfl, fin.out⟩
set_option maxRecDepth 100000 in
set_option maxHeartbeats 4000000 in
theorem send_k {g k : Nat} (hk : k < 2) {a b : Way} (w : World) (h : Lk w g a b) (hl : (sel k a b).l.length ≤ 1000) (hs : (sel k a b).s < 1000000000000) (hx : (sel k a b).x < 1000000000000) (Ab : Option Addr) (cb : Nat) (l : List UInt8) (hll : l.length ≤ 1000000) (hub : UB w Ab l) :
    Calls Try.prog 14 #[.pointer (some ⟨g, 0, none⟩), .int .i64 (k : Int), .slice Ab l.length cb] w fun e w' => e = .returned (.tuple #[]) ∧ Post w w' g k a b (putW ⟨(sel k a b).l, (sel k a b).s + 1, (sel k a b).x⟩ (l, false)) := by
  obtain ⟨cs, v, rows, hb, hy, hout⟩ := h.open_ k hk
  unfold Post
  generalize sel k a b = y at *
  have h1 := Lib.hid (at_k g k hk w)
  have c1 : w.cell? ⟨g, 3 * k + 1, none⟩ = some (.int .i64 (y.s : Int)) := by rw [hb.cell, hy.c1]
  have f1 := hb.frozen (3 * k + 1)
  obtain ⟨b3, y3, u3, ku⟩ := wy_set1 hb hy (y.s + 1) ((y.s : Int) + 1) (by omega)
  have hxw : (y.s : Int) + 1 ≤ 1000000000000 := by omega
  have hxn : -1000 ≤ (y.s : Int) := by omega
  have hub3 := hub.ku ku
  replace hout := Lib.hid hout
  clear h hb hy ku hub
  go_enter Try.func14, Try.ntmps14
  go_wp2_with fail
  refine h1.out.mono ?_
  rintro e w' ⟨rfl, rfl⟩
  replace b3 := Lib.hid b3
  replace y3 := Lib.hid y3
  replace u3 := Lib.hid u3
  have ob := Lib.hid (OB.made (E := 5) (base := (w'.setCell ⟨g, 3 * k + 1, none⟩ (.int .i64 ((y.s : Int) + 1))).heap.size) (w'.setCell ⟨g, 3 * k + 1, none⟩ (.int .i64 ((y.s : Int) + 1))) (Nat.le_refl _))
  have rb := Lib.hid (hub3.ku (KU.of_gr ((Gr.refl _).alloc (.cells #[] 5)))).rb
  have sz : (w'.setCell ⟨g, 3 * k + 1, none⟩ (.int .i64 ((y.s : Int) + 1))).heap.size = w'.heap.size := by simp
  rw [sz] at ob
  clear hub3
  replace sz := Lib.hid sz
  generalize hcs : cs.setIfInBounds (3 * k + 1) (.int .i64 ((y.s : Int) + 1)) = cs3 at b3 y3 u3
  go_wp2_with (first
    | ((with_reducible refine wpList_isApp (.tmp 20) (.tmp 21) 44 rfl ?_); refine wpList_append_empty (g := w'.heap.size) (base := w'.heap.size) rfl (.tmp 20) (.tmp 21) 44 rfl Try.underlying44 byteRow rfl (by exact ob.out) _ Ab l.length cb (bvs l) rfl (by exact rb.out) (bvs_one _) (by unfold maxLen; omega) (by omega) (by simp) ?_; intro A9 c9 w9 o9 g9; replace o9 := Lib.hid o9; replace g9 := Lib.hid g9; clear ob rb c1 f1)
    | fail)
  have g9' := ((Gr.refl (w'.setCell ⟨g, 3 * k + 1, none⟩ (.int .i64 ((y.s : Int) + 1)))).alloc (.cells #[] 5)).trans g9.out
  obtain ⟨_, _, he, q1, q2⟩ := OR.shape o9.out
  injection he with _ _ he
  subst he
  refine (put_any g (3 * k) cs3 v rows ⟨y.l, y.s + 1, y.x⟩ w9 (blk_more b3.out g9') (y3.out.gr g9') hl hx A9 l.length c9 false (l, false) ⟨A9, c9, rfl, q1, q2, UB.of_ob o9.out⟩).mono ?_
  rintro e w2 ⟨rfl, cs2, v2, rows2, b2, y2, u2⟩
  have fin := Lib.hid (hout.out _ _ _ _ _ b2 y2 ((u3.out.gr g9').trans u2))
  clear h1 b2 y2 u2 hout g9 g9' b3 y3 u3 o9
  go_wp2
  go_end0
  exact ⟨rfl, fin.out⟩
end Ln
end Go.Proofs.Ytpkbdodclkgjpaa

