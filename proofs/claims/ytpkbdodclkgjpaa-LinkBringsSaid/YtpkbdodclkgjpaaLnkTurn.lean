/- The walk of a link's Turn. No condition but sizes. -/
import Derived.Test.YtpkbdodclkgjpaaLnkOpsB
import Derived.Test.YtpkbdodclkgjpaaCrcWalkC
set_option linter.unusedVariables false
set_option linter.unusedSimpArgs false
namespace Go.Proofs.Ytpkbdodclkgjpaa
open Go Go.RowKit Go.Shelf W
namespace Ln
theorem step_call3 {P : Program} {ops : Array Oper} {o : Oper} {a : Act} {w : World} {K : Act → World → Prop} {Q : Exit → Act → World → Prop} {E' : Prop} (hgd : o.guard = none) (x y z : Operand) (f : FuncId) (fn : Func) (ats : Array TypeId)
    (ho : o.op = .call { callee := .value (.func f), args := #[x, y, z], argTypes := ats }) (hf : P.funcs[f]? = some fn) (hn : (fn.name == "runtime.NumGoroutine") = false) (hb : fn.body.isNone = false)
    (u v s : Value) (hx : a.eval x = u) (hy : a.eval y = v) (hz : a.eval z = s) (R : Value → World → Prop) (hc : Calls P f #[u, v, s] w fun e w' => ∃ u, e = .returned u ∧ R u w') (h : ∀ u w', R u w' → K (a.put o.dst u) w') :
    if Region.wanted o (yielded ops a.tmps) = true then Oper.wp P o a w K Q else E' := by
  have hw : Region.wanted o (yielded ops a.tmps) = true := by simp [Region.wanted, hgd]
  rw [if_pos hw]
  have e : execOp a.eval o = callFunc f (#[] ++ #[x, y, z].map a.eval ++ #[]) := by
    obtain ⟨dst, op, ty, pos, after, guard⟩ := o
    simp only at ho
    subst ho
    rfl
  unfold Oper.wp
  rw [e, run_callFunc_enter hf hn hb]
  simp only [List.map_toArray, List.map_cons, List.map_nil, hx, hy, hz]
  refine Calls.mono hc ?_
  rintro e w' ⟨u, rfl, hr⟩
  exact h u w' hr
/-- The block of rows that are there. -/
theorem op_block {w : World} {base : Nat} {v : Value} {rows : List (Value × Value)} (h : OP w base v rows) (hn : 0 < rows.length) : ∃ gb cap cur, v = .slice (some ⟨gb, 0, none⟩) rows.length cap ∧ base ≤ gb ∧ Blk w gb 63 cur ∧ rows.length ≤ cap ∧ cap ≤ maxLen ∧ cur.size = cap * 2 ∧ cur.toList.take (rows.length * 2) = pcs rows := by
  rcases h.2 with ⟨_, h0⟩ | ⟨gb, cap, cur, hv, h1, h2, h3, h4, h5, h6⟩
  · omega
  · exact ⟨gb, cap, cur, hv, h1, h2, h3, h4, h5, h6⟩
theorem turn_done {g k : Nat} (hk : k < 2) {a b : Way} (w : World) (h : Lk w g a b) (i : Nat) (hi : i < (sel k a b).l.length) (ht : ((sel k a b).l[i]).2 = true) (at_ : Int) (m : UInt32) :
    Calls Try.prog 18 #[.pointer (some ⟨g, 0, none⟩), .int .i64 (k : Int), .int .i64 (i : Int), .int .i64 at_, .int .u32 (n32 m)] w fun e w' => e = .returned (.bool false) ∧ w' = w := by
  obtain ⟨cs, v, rows, hb, hy, hout⟩ := h.open_ k hk
  generalize sel k a b = y at *
  have hi' : i < rows.length := by rw [hy.pr.len]; exact hi
  obtain ⟨Ai, ci, hri, q1, q2, q3⟩ := hy.pr.at_ i hi' hi
  have h1 := Lib.hid (at_k g k hk w)
  have h2 := has_way g (3 * k) cs v rows y i w hb hy
  rw [decide_eq_true (by omega)] at h2
  replace h2 := Lib.hid h2
  have os := hy.os
  obtain ⟨A, c, hv⟩ := hy.sh
  rw [hv] at os
  obtain ⟨ad, hA, hal, hab, e0, e1⟩ := op_at os hi'
  rw [hri, ht] at e1
  have c0 : w.cell? ⟨g, 3 * k, none⟩ = some (.slice (some ad) rows.length c) := by rw [hb.cell, hy.c0, hv, hA]
  have hi0 : (0 : Int) ≤ (i : Int) := by omega
  have hi1 : (i : Int) < (rows.length : Int) := by omega
  clear h hb hy os hv hA q3 hri hout e0 ht
  go_enter Try.func18, Try.ntmps18
  go_wp2_with fail
  refine h1.out.mono ?_
  rintro e w' ⟨rfl, rfl⟩
  go_wp2_with fail
  refine h2.out.mono ?_
  rintro e w' ⟨rfl, rfl⟩
  go_wp2
  go_ret
  exact ⟨rfl, rfl⟩
theorem turn_fin {w w9 : World} {g o gb c i : Nat} {cs cur : Array Value} {rows : List (Value × Value)} {y : Way} {p : Pk} {v9 : Value} (hb : Blk w g 54 cs) (hy : Wy w g o cs (.slice (some ⟨gb, 0, none⟩) rows.length c) rows y) (hgb : g + 1 ≤ gb) (bb : Blk w gb 63 cur)
    (h3 : rows.length ≤ c) (h4 : c ≤ maxLen) (h5 : cur.size = c * 2) (h6 : cur.toList.take (rows.length * 2) = pcs rows) (hi : i < rows.length) (g9 : Gr w w9) (hpk : pkc w9 (v9, .bool true) p) :
    Blk ((w9.setCell ⟨gb, i * 2, none⟩ v9).setCell ⟨gb, i * 2 + 1, none⟩ (.bool true)) g 54 cs ∧ Wy ((w9.setCell ⟨gb, i * 2, none⟩ v9).setCell ⟨gb, i * 2 + 1, none⟩ (.bool true)) g o cs (.slice (some ⟨gb, 0, none⟩) rows.length c) (rows.set i (v9, .bool true)) ⟨y.l.set i p, y.s, y.x⟩ ∧
      UpE w ((w9.setCell ⟨gb, i * 2, none⟩ v9).setCell ⟨gb, i * 2 + 1, none⟩ (.bool true)) g o (.slice (some ⟨gb, 0, none⟩) rows.length c) cs cs (.slice (some ⟨gb, 0, none⟩) rows.length c) := by
  have b9 := blk_more bb g9
  have l9 := blk_more hb g9
  have kk := ((Kb.refl gb w9).set (i * 2) v9).set (i * 2 + 1) (.bool true)
  have K9 : K2 g (some gb) w9 _ := (K2.refl g (some gb) w9).kb kk (.inr (.inl rfl))
  have K : K2 g (some gb) w _ := ((K2.refl g (some gb) w).gr g9).kb kk (.inr (.inl rfl))
  have ku9 := ku_of_k2 K9 l9 (fun n hn => by cases hn; exact ⟨_, _, b9⟩)
  have hl : (rows.set i (v9, .bool true)).length = rows.length := List.length_set
  refine ⟨kk.blk l9 (by omega), ⟨hy.c0, hy.c1, hy.c2, ⟨_, _, by rw [hl]⟩, ?_, ((hy.pr.ku (KU.of_gr g9)).ku ku9).set i (hpk.ku ku9)⟩, ⟨fun _ _ => rfl, K, fun n hn => .inl hn⟩⟩
  unfold OP
  rw [hl]
  refine ⟨by rw [pcs_len, hl], .inr ⟨gb, c, _, rfl, hgb, (b9.set_ (i * 2) v9).set_ (i * 2 + 1) (.bool true), h3, h4, by simpa using h5, ?_⟩⟩
  rw [pcs_set rows i _ hi, ← h6, Array.toList_setIfInBounds, Array.toList_setIfInBounds, List.take_set, List.take_set]
set_option maxRecDepth 100000 in
set_option maxHeartbeats 8000000 in
theorem turn_k {g k : Nat} (hk : k < 2) {a b : Way} (w : World) (h : Lk w g a b) (i : Nat) (hi : i < (sel k a b).l.length) (hlen : (sel k a b).l.length ≤ 1000) (hpl : ((sel k a b).l[i]).1.length ≤ 1000000) (ht : ((sel k a b).l[i]).2 = false) (at_ : Int) (m : UInt32) (ha1 : -9223372036854775808 ≤ at_) (ha2 : at_ ≤ 9223372036854775807) :
    Calls Try.prog 18 #[.pointer (some ⟨g, 0, none⟩), .int .i64 (k : Int), .int .i64 (i : Int), .int .i64 at_, .int .u32 (n32 m)] w fun e w' => e = .returned (.bool true) ∧
      Post w w' g k a b ⟨(sel k a b).l.set i (Crc.turned ((sel k a b).l[i]).1 at_ m, true), (sel k a b).s, (sel k a b).x⟩ := by
  obtain ⟨cs, v, rows, hb, hy, hout⟩ := h.open_ k hk
  unfold Post
  have hlt := hb.lt
  generalize sel k a b = y at *
  have hi' : i < rows.length := by rw [hy.pr.len]; exact hi
  obtain ⟨Ai, ci, hri, q1, q2, q3⟩ := hy.pr.at_ i hi' hi
  have h1 := Lib.hid (at_k g k hk w)
  have h2 := has_way g (3 * k) cs v rows y i w hb hy
  rw [decide_eq_true (by omega)] at h2
  replace h2 := Lib.hid h2
  obtain ⟨gb, c, cur, rfl, hgb, bb, hc1, hc2, hcs, htk⟩ := op_block hy.os (by omega)
  have hbl := bb.lt
  have p0 : cur[i * 2]? = some (.slice Ai y.l[i].1.length ci) := by
    have e : (cur.toList.take (rows.length * 2))[i * 2]? = cur[i * 2]? := by rw [List.getElem?_take, if_pos (by omega), Array.getElem?_toList]
    rw [← e, htk, (pcs_at rows i hi').1, hri]
  have p1 : cur[i * 2 + 1]? = some (.bool false) := by
    have e : (cur.toList.take (rows.length * 2))[i * 2 + 1]? = cur[i * 2 + 1]? := by rw [List.getElem?_take, if_pos (by omega), Array.getElem?_toList]
    rw [← e, htk, (pcs_at rows i hi').2, hri, ht]
  have c0 : w.cell? ⟨g, 3 * k, none⟩ = some (.slice (some ⟨gb, 0, none⟩) rows.length c) := by rw [hb.cell, hy.c0]
  have e0 : w.cell? ⟨gb, i * 2, none⟩ = some (.slice Ai y.l[i].1.length ci) := by rw [bb.cell, p0]
  have e1 : w.cell? ⟨gb, i * 2 + 1, none⟩ = some (.bool false) := by rw [bb.cell, p1]
  have con := Lib.hid (Crc.turn_any Ai ci y.l[i].1 at_ m w.drew (by omega) q1 q2 ha1 ha2 (by exact q3.rb))
  have hi0 : (0 : Int) ≤ (i : Int) := by omega
  have hi1 : (i : Int) < (rows.length : Int) := by omega
  replace hb := Lib.hid hb
  replace hy := Lib.hid hy
  replace bb := Lib.hid bb
  replace hout := Lib.hid hout
  replace hri := Lib.hid hri
  replace p0 := Lib.hid p0
  replace p1 := Lib.hid p1
  replace q3 := Lib.hid q3
  replace ht := Lib.hid ht
  replace htk := Lib.hid htk
  replace hcs := Lib.hid hcs
  clear h
  go_enter Try.func18, Try.ntmps18
  go_wp2_with fail
  refine h1.out.mono ?_
  rintro e w' ⟨rfl, rfl⟩
  go_wp2_with fail
  refine h2.out.mono ?_
  rintro e w' ⟨rfl, rfl⟩
  go_wp2
  go_region_law (refine step_call3 rfl (.tmp 41) (.tmp 42) (.tmp 43) 25 _ _ rfl Try.func25 (by kernel_rfl) (by kernel_rfl) (.slice Ai y.l[i].1.length ci) (.int .i64 at_) (.int .u32 (n32 m)) rfl rfl rfl (fun v w9 => OB 5 w9 w'.heap.size v (Crc.turned y.l[i].1 at_ m) ∧ Gr w' w9) ((by exact con.out : Calls Try.prog 25 #[.slice Ai y.l[i].1.length ci, .int .i64 at_, .int .u32 (n32 m)] w'.drew _).mono (by rintro e w9 ⟨v, rfl, q1, q2⟩; exact ⟨v, rfl, q1, gr_drew q2⟩)) ?_; rintro u w9 ⟨o9, g9⟩; obtain ⟨A9, c9, rfl, r1, r2⟩ := OB.shape o9; have c0' : w9.cell? ⟨g, 3 * k, none⟩ = some (.slice (some ⟨gb, 0, none⟩) rows.length c) := (g9.cell (p := ⟨g, 3 * k, none⟩) hlt).trans c0; have b9 := blk_more bb.out g9; have d0 := (b9.cell (i * 2)).trans p0.out; have f0 := b9.frozen (i * 2); have d1 := ((b9.set_ (i * 2) (.slice A9 (Crc.turned y.l[i].1 at_ m).length c9)).cell (i * 2 + 1)).trans (wy_ne p1.out (by omega)); have f1 := (b9.set_ (i * 2) (.slice A9 (Crc.turned y.l[i].1 at_ m).length c9)).frozen (i * 2 + 1); replace b9 := Lib.hid b9; replace o9 := Lib.hid o9; replace g9 := Lib.hid g9)
  all_goals
    obtain ⟨z1, z2, z3⟩ := turn_fin hb.out hy.out hgb bb.out hc1 hc2 hcs.out htk.out hi' g9.out (p := (Crc.turned y.l[i].1 at_ m, true)) (v9 := .slice A9 (Crc.turned y.l[i].1 at_ m).length c9) ⟨A9, c9, rfl, r1, r2, UB.of_ob o9.out⟩
    have fin := Lib.hid (hout.out _ _ _ _ _ z1 z2 z3)
    clear z1 z2 z3
    go_wp2
    go_ret
    exact ⟨rfl, fin.out⟩
end Ln
end Go.Proofs.Ytpkbdodclkgjpaa

