/- The walk of LinkBrings. No condition but sizes. -/
import Derived.Test.YtpkbdodclkgjpaaLnkSn
import Derived.Test.YtpkbdodclkgjpaaGrowP
import Derived.BigQuiet
set_option linter.unusedVariables false
set_option linter.unusedSimpArgs false
namespace Go.Proofs.Ytpkbdodclkgjpaa
open Go Go.RowKit Go.Shelf W
namespace Ln
theorem strRow : RowType Try.prog 9 1 16 := by
  obtain ⟨i, h1, h2, h3, h4⟩ := info_parts (show (Try.prog.info? 9).map (fun i => (i.zero, i.size, i.bytes)) = some (some (.string ⟨#[]⟩), 1, 16) by kernel_rfl)
  exact ⟨i, _, h1, h2, h3, h4, rfl, by omega⟩
theorem doP_ok (a b : Way) (c : Ac) (h : c.k = 0) : (doP a b c).2.2.2 = decide (c.w = 0 ∨ c.w = 1) := by
  unfold doP doY
  by_cases h0 : c.w = 0
  · simp [h0, h]
  · by_cases h1 : c.w = 1
    · simp [h1, h]
    · simp [h0, h1]
theorem snoc_len {S : List (List UInt8)} {b : List UInt8} (h : ∀ s ∈ S, s.length ≤ 100) (hb : b.length ≤ 100) : ∀ s ∈ S ++ [b], s.length ≤ 100 := fun s hs => by
  rcases List.mem_append.1 hs with h' | h'
  · exact h s h'
  · obtain rfl := List.mem_singleton.1 h'; exact hb
theorem snoc_tb {T : List Ac} {c : Ac} (h : ∀ t ∈ T, -9223372036854775808 ≤ t.t ∧ t.t ≤ 9223372036854775807) (h1 : -9223372036854775808 ≤ c.t) (h2 : c.t ≤ 9223372036854775807) : ∀ t ∈ T ++ [c], -9223372036854775808 ≤ t.t ∧ t.t ≤ 9223372036854775807 := fun t ht => by
  rcases List.mem_append.1 ht with h' | h'
  · exact h t h'
  · obtain rfl := List.mem_singleton.1 h'; exact ⟨h1, h2⟩
theorem acs_append (S T : List Ac) : acs (S ++ T) = acs S ++ acs T := by simp [acs]
theorem acInfo (a b c d e f : Value) : (Try.prog.info? 31).map (·.size) = some (#[a, b, c, d, e, f] : Array Value).size := by kernel_rfl
theorem actRow : RowType Try.prog 31 6 56 := by
  obtain ⟨i, h1, h2, h3, h4⟩ := info_parts (show (Try.prog.info? 31).map (fun i => (i.zero, i.size, i.bytes)) = some (some (.agg #[.int .i64 0, .int .i64 0, .int .i64 0, .int .i64 0, .int .u32 0, .string ⟨#[]⟩]), 6, 56) by kernel_rfl)
  exact ⟨i, _, h1, h2, h3, h4, rfl, by omega⟩
theorem new1a (w : World) (c : Ac) : Reads (w.alloc (.cells #[.int .i64 c.k, .int .i64 c.w, .int .i64 c.i, .int .i64 c.t, .int .u32 (n32 c.m), str c.b] 31)) (w.heap.size + 1) 6 (some ⟨w.heap.size, 0, none⟩) 1 (acs [c]) := by
  refine ⟨rfl, fun _ => ⟨_, rfl, Nat.lt_succ_self _, fun j u hu => ?_⟩⟩
  have ha : (⟨w.heap.size, 0, none⟩ : Addr).add j = ⟨w.heap.size, j, none⟩ := by unfold Addr.add; split <;> simp_all
  rw [ha, (Blk.new w _ _).cell]
  simpa [acs, acL] using hu
theorem wpList_append_full {P : Program} {E : TypeId} {size base n : Nat} {v : Value} {xs : List Value} {w : World} {ops : Array Oper} {rest : List Oper} {o : Oper} {a : Act} {Q : Exit → Act → World → Prop} (hgd : o.guard = none) (s x : Operand) (T : TypeId)
    (ho : o.op = .call { callee := .builtin .append, args := #[s, x], argTypes := #[T, T] }) {bytes : Nat} (ht : P.underlying T = some (.slice E)) (hE : RowType P E size bytes) (hs : a.eval s = v) (hown : OR E size w base v n xs)
    (B : Nat) (A : Option Addr) (m c : Nat) (news : List Value) (hx : a.eval x = .slice A m c) (hr : Reads w B size A m news) (h1 : ∀ u ∈ news, u.oneCell' = true) (hlen : n + m ≤ maxLen) (hby : (n + m) * bytes ≤ 140737488355328) (hbase : base ≤ w.heap.size)
    (L : List Value) (hL : L = xs ++ news) (k : Nat) (hk : k = n + m) (h : ∀ A' c' w', OR E size w' base (.slice A' k c') k L → w.grownBy w' v.ownBlock → ((Value.slice A' k c').ownBlock = v.ownBlock ∨ (Value.slice A' k c').ownBlock = some w.heap.size) → wpList P ops Q rest (a.put o.dst (.slice A' k c')) w') : wpList P ops Q (o :: rest) a w :=
  wpList_wanted (by simp [Region.wanted, hgd]) fun _ hK => by
    subst hL
    subst hk
    obtain ⟨A', c', w', hrun, h2, _, h3, h4⟩ := run_append_rows (P := P) T o.type ht hE hown B A m c news hr h1 hlen hby hbase
    unfold Oper.wp execOp
    simp only [ho, resolve, invoke, builtin, Sem.run_bind, Sem.run_pure, Result.andThen_ok, List.map_toArray, List.map_cons, List.map_nil, hs, hx, hrun]
    exact hK _ _ (h A' c' w' h2 h3 h4)
theorem selS_p {k : Nat} {S0 S1 : List (List UInt8)} (h0 : ∀ s ∈ S0, s.length ≤ 100) (h1 : ∀ s ∈ S1, s.length ≤ 100) : ∀ s ∈ selS k S0 S1, s.length ≤ 100 := by unfold selS; split <;> assumption
theorem so_at {w : World} {base c : Nat} {A : Option Addr} {S : List (List UInt8)} (h : SO w base (.slice A S.length c) S) {K : Nat} (hK : K < S.length) : ∃ ad, A = some ad ∧ ad.block < w.heap.size ∧ w.cell? (ad.add K) = some (str S[K]) := by
  obtain ⟨ad, h1, h2, h3⟩ := (OR.reads h).2 (by omega)
  exact ⟨ad, h1, h2, h3 K _ (by simp [strs, hK])⟩
theorem strs_append (S T : List (List UInt8)) : strs (S ++ T) = strs S ++ strs T := by simp [strs]
theorem exec_append {P : Program} {ρ : Operand → Value} {w w9 : World} {o : Oper} {v u r : Value} (s x : Operand) (T : TypeId) (ho : o.op = .call { callee := .builtin .append, args := #[s, x], argTypes := #[T, T] }) (hs : ρ s = v) (hx : ρ x = u)
    (hrun : (Builtin.append_ #[T, T] o.type #[v, u]).run P w = .ok r w9) : (execOp ρ o).run P w = .ok (.value r) w9 := by
  unfold execOp
  simp only [ho, resolve, invoke, builtin, Sem.run_bind, Sem.run_pure, Result.andThen_ok, List.map_toArray, List.map_cons, List.map_nil, hs, hx, hrun]
theorem grown_gr {w w9 w2 : World} {r : Option Nat} (h : w.grownBy w9 r) (k : Gr w9 w2) : w.grownBy w2 r :=
  ⟨k.os.trans (World.grownBy.os h), k.tape.trans (World.grownBy.tape h), k.output.trans (World.grownBy.output h), Nat.le_trans (World.grownBy.size h) k.size, fun i hi hn => (k.block i (Nat.lt_of_lt_of_le hi (World.grownBy.size h))).trans (World.grownBy.block h i hi hn)⟩
theorem new1s (w : World) (s : List UInt8) : Reads (w.alloc (.cells #[str s] 9)) (w.heap.size + 1) 1 (some ⟨w.heap.size, 0, none⟩) 1 (strs [s]) := by
  refine ⟨rfl, fun _ => ⟨_, rfl, Nat.lt_succ_self _, fun j u hu => ?_⟩⟩
  have ha : (⟨w.heap.size, 0, none⟩ : Addr).add j = ⟨w.heap.size, j, none⟩ := by unfold Addr.add; split <;> simp_all
  rw [ha, (Blk.new w _ _).cell]
  simpa [strs] using hu
set_option maxRecDepth 100000 in
set_option maxHeartbeats 8000000 in
theorem brings_walk (A : Option Addr) (c : Nat) (l : List Ac) (w : World) (hc : l.length ≤ c) (hm : c ≤ maxLen) (hr : AR w w.heap.size A l) (hx : ∀ t ∈ l, t.b.length ≤ maxLen ∧ -9223372036854775808 ≤ t.t ∧ t.t ≤ 9223372036854775807) :
    Calls Try.prog 3 #[.slice A l.length c] w (Ret (eqv (.bool true)) w) := by
  have hfe := Lib.hid (few_any A c l w hr (fun t ht => by have := (hx t ht).1; unfold maxLen at this; omega) (by unfold maxLen at hm; omega))
  have hr' := Lib.hid hr
  have hx' := Lib.hid hx
  clear hr hm hx
  by_cases hq : fewB l = true
  · obtain ⟨h60, hb100⟩ := few_fits hq
    replace hb100 := Lib.hid hb100
    rw [hq] at hfe
    clear hq
    go_enter Try.func3, Try.ntmps3
    go_wp2_with fail
    refine hfe.out.mono ?_
    rintro e W1 ⟨rfl, g1⟩
    replace g1 := Lib.hid g1
    clear hfe
    go_wp2_with fail
    refine (new_any W1).mono ?_
    rintro e W2 ⟨rfl, rfl⟩
    have k2 := Lib.hid (lk_new W1)
    have g2 := Lib.hid (g1.out.trans ((Gr.refl W1).alloc (.cells lkZ 54)))
    generalize hW2 : W1.alloc (.cells lkZ 54) = W2 at k2 g2 ⊢
    have l2 : W1.heap.size < W2.heap.size := by rw [← hW2]; simp
    have lgw : w.heap.size ≤ W1.heap.size := g1.out.size
    clear hW2
    generalize W1.heap.size = g at k2 l2 lgw ⊢
    clear g1 W1
    go_wp2
    have T0 := Lib.hid (show Br (W2.alloc (.cells #[.slice none 0 0, .slice none 0 0] 28)) (w.heap.size) g W2.heap.size 0 ⟨[], 0, 0⟩ ⟨[], 0, 0⟩ [] [] [] (.slice none 0 0) from ⟨k2.out.gr ((Gr.refl W2).alloc _), okj_zero, okj_zero, ⟨_, _, Blk.new W2 _ _, ⟨rfl, .inl ⟨rfl, rfl⟩⟩, ⟨rfl, .inl ⟨rfl, rfl⟩⟩, fun n h => by cases h⟩, ⟨rfl, .inl ⟨rfl, rfl⟩⟩, by simp, by simp, by simp, by simp, by simp, by simp⟩)
    have G0 := Lib.hid (g2.out.trans ((Gr.refl W2).alloc (.cells #[.slice none 0 0, .slice none 0 0] 28)))
    have lg : w.heap.size ≤ W2.heap.size := g2.out.size
    generalize W2.heap.size = gs at T0 lg l2 ⊢
    generalize W2.alloc (.cells #[.slice none 0 0, .slice none 0 0] 28) = W3 at T0 G0 ⊢
    clear k2 g2 W2
    go_loopw [5, 6, 7, 8, 9, 10, 11, 12] (fun tv i _ _ _ _ _ _ wr => ∃ j : Nat, j ≤ l.length ∧ i = .int .i64 (j : Int) ∧ Hid (Gr w wr) ∧ Hid (∃ a b S0 S1 T, Br wr w.heap.size g gs j a b S0 S1 T tv)) (fun _ i _ _ _ _ _ _ _ => l.length - (intOf i).toNat)
    case atStart => exact ⟨0, by omega, rfl, G0, Lib.hid ⟨_, _, _, _, _, T0.out⟩⟩
    case round =>
      obtain ⟨j, hj, rfl, gr, tw⟩ := hrel
      obtain ⟨a, b, S0, S1, T, tw⟩ := tw.out
      clear T0 G0
      by_cases h : j < l.length
      · obtain ⟨ad, hA, hlt, e0, e1, e2, e3, e4, e5⟩ := (hr'.out.below gr.out).at_ h
        subst hA
        have hbj := hb100.out l[j] (List.getElem_mem h)
        have hxj := hx'.out l[j] (List.getElem_mem h)
        have i1 : (0 : Int) ≤ (j : Int) := by omega
        have i2 : (j : Int) < (l.length : Int) := by omega
        generalize l[j] = t at *
        obtain ⟨tk, tw_, ti, tt, tm, tb⟩ := t
        simp only at e0 e1 e2 e3 e4 e5 hbj hxj
        obtain ⟨_, ht1, ht2⟩ := hxj
        replace tw := Lib.hid tw
        by_cases h0 : tk = 0
        · subst h0
          by_cases hw : tw_ = 0 ∨ tw_ = 1
          · obtain ⟨k, hk2, rfl⟩ : ∃ k : Nat, k < 2 ∧ tw_ = (k : Int) := ⟨tw_.toNat, by omega, by omega⟩
            have kk0 : (0 : Int) ≤ (k : Int) := by omega
            have kk2 : (k : Int) < 2 := by omega
            have hown := Lib.hid (fun n hn => (World.ownsRow.lt tw.out.tn n hn).2)
            go_wp2_with fail
            have Wa := (Gr.refl wr).alloc (.cells #[.int .i64 0, .int .i64 (k : Int), .int .i64 ti, .int .i64 tt, .int .u32 (n32 tm), str tb] 31)
            have T8 := tw.out.gr Wa
            obtain ⟨v0, v1, bs, o0, o1, hdis⟩ := T8.sn
            have bx := Blk.new wr 31 #[.int .i64 0, .int .i64 (k : Int), .int .i64 ti, .int .i64 tt, .int .u32 (n32 tm), str tb]
            have G8 := gr.out.trans Wa
            have l8 : wr.heap.size < (wr.alloc (.cells #[.int .i64 0, .int .i64 (k : Int), .int .i64 ti, .int .i64 tt, .int .u32 (n32 tm), str tb] 31)).heap.size := by simp
            generalize wr.alloc (.cells #[.int .i64 0, .int .i64 (k : Int), .int .i64 ti, .int .i64 tt, .int .u32 (n32 tm), str tb] 31) = W8 at T8 bs o0 o1 bx G8 l8 ⊢
            have hdo := do_any T8.lk (T8.oa.ok (by omega)) (T8.ob.ok (by omega)) ⟨0, (k : Int), ti, tt, tm, tb⟩ hbj ht1 ht2
            have hok := doP_okj T8.oa T8.ob ⟨0, (k : Int), ti, tt, tm, tb⟩ hbj
            have hgd := doP_good ⟨0, (k : Int), ti, tt, tm, tb⟩ T8.g0 T8.g1
            have hpo := doP_ok a b ⟨0, (k : Int), ti, tt, tm, tb⟩ rfl
            rw [decide_eq_true (by simp only; omega)] at hpo
            generalize doP a b ⟨0, (k : Int), ti, tt, tm, tb⟩ = P at hdo hok hgd hpo
            obtain ⟨pa, pb, ps, po⟩ := P
            refine hdo.mono ?_
            rintro e W4 ⟨rfl, q1, q2, q3⟩
            simp only at hpo q1 hok hgd
            subst hpo
            have G4 := Lib.hid (show Gr w W4 from Below.trans G8 (Below.mono q3 lgw))
            have x4 := q2.blk bx (by decide) (by decide)
            have b4 := q2.blk bs (by decide) (by decide)
            have u0 := Lib.hid (q2.or_ o0 (by decide) (by decide))
            have u1 := Lib.hid (q2.or_ o1 (by decide) (by decide))
            have tn4 := Lib.hid (q2.or_ T8.tn (by decide) (by decide))
            rw [sent_add0 S0 _ k rfl rfl, sent_add1 S1 _ k rfl rfl, trns_same T _ (by simp) (by simp)] at hgd
            have ln := Lib.hid T8.ln
            have ss := Lib.hid (And.intro T8.s0 T8.s1)
            have tbb := Lib.hid T8.tb
            have a0 := x4.cell 0
            have a1 := x4.cell 1
            have a5 := x4.cell 5
            have l4 := x4.lt
            replace x4 := Lib.hid x4
            replace b4 := Lib.hid b4
            replace q1 := Lib.hid q1
            replace hok := Lib.hid hok
            replace hgd := Lib.hid hgd
            replace hdis := Lib.hid hdis
            clear T8 bs o0 o1 bx G8 q2 q3 Wa e0 e1 e2 e3 e4 e5 tw gr hdo

            have hbase : w.heap.size ≤ W4.heap.size := G4.out.size
            obtain ⟨Ak, ck, hcell, oK, hck, hcm, hput⟩ := sn_put tb k hk2 b4.out u0.out u1.out hdis.out hbase lg
            have ck_ := (b4.out.cell k).trans hcell
            have lgs := b4.out.lt
            have hsl := selS_len (k := k) ln.out.1 ln.out.2.1
            replace hput := Lib.hid hput
            obtain ⟨SK, hSK⟩ : ∃ SK, selS k S0 S1 = SK := ⟨_, rfl⟩
            rw [hSK] at hcell oK hck hput ck_ hsl
            clear hcell hSK
            replace oK := Lib.hid oK
            go_wp2
            refine region_grow rfl (by kernel_rfl) ?_
            refine GW.p1 (.pointer (some ⟨wr.heap.size, 1, none⟩)) rfl trivial (kn0 (t := 7) (c := .pointer (some ⟨wr.heap.size, 0, none⟩)) (by kernel_rfl) rfl) (fun ρ w' hρ hg => by simp [execOp, hρ, go_sem]) ?_
            refine GW.p1 (.int .i64 (k : Int)) rfl trivial (kn (t := 40) (j := 0) (by kernel_rfl)) (fun ρ w' hρ hg => by simp [execOp, hρ, go_sem, (hg.cell (p := ⟨wr.heap.size, 1, none⟩) x4.out.lt).trans (x4.out.cell 1)]) ?_
            refine GW.p1 (.pointer (some ⟨wr.heap.size, 1, none⟩)) rfl trivial (kn0 (t := 7) (c := .pointer (some ⟨wr.heap.size, 0, none⟩)) (by kernel_rfl) rfl) (fun ρ w' hρ hg => by simp [execOp, hρ, go_sem]) ?_
            refine GW.p1 (.int .i64 (k : Int)) rfl trivial (kn (t := 42) (j := 2) (by kernel_rfl)) (fun ρ w' hρ hg => by simp [execOp, hρ, go_sem, (hg.cell (p := ⟨wr.heap.size, 1, none⟩) x4.out.lt).trans (x4.out.cell 1)]) ?_
            refine GW.p2 (.pointer (some ⟨gs, k, none⟩)) rfl trivial (kn0 (t := 4) (c := .pointer (some ⟨gs, 0, none⟩)) (by kernel_rfl) rfl) (kn (t := 43) (j := 3) (by kernel_rfl)) (fun ρ w' h1 h2 hg => by simp [execOp, h1, h2, go_sem, kk0, kk2]) ?_
            refine GW.p1 (.slice Ak SK.length ck) rfl trivial (kn (t := 44) (j := 4) (by kernel_rfl)) (fun ρ w' hρ hg => by simp [execOp, hρ, go_sem, (hg.cell (p := ⟨gs, k, none⟩) lgs).trans ck_]) ?_
            refine GW.p1 (.pointer (some ⟨wr.heap.size, 5, none⟩)) rfl trivial (kn0 (t := 7) (c := .pointer (some ⟨wr.heap.size, 0, none⟩)) (by kernel_rfl) rfl) (fun ρ w' hρ hg => by simp [execOp, hρ, go_sem]) ?_
            refine GW.p1 (str tb) rfl trivial (kn (t := 46) (j := 6) (by kernel_rfl)) (fun ρ w' hρ hg => by simp [execOp, hρ, go_sem, (hg.cell (p := ⟨wr.heap.size, 5, none⟩) x4.out.lt).trans (x4.out.cell 5)]) ?_
            refine GW.rowsN (E := 9) (size := 1) #[(0, str tb)] #[str tb] rfl (by omega) rfl trivial rfl ⟨rfl, (kn (t := 47) (j := 7) (by kernel_rfl)), trivial⟩ (fun w => by kernel_rfl) ?_
            refine GW.lateE (m := 9) [0, 1] rfl rfl rfl (by kernel_rfl) (by kernel_rfl) (by kernel_rfl) (fun i hi => ?_) (by kernel_rfl) (fun a8 w8 hg8 hkn => ?_)
            · match i, hi with
              | 0, _ => exact ⟨_, rfl⟩
              | 1, _ => exact ⟨_, rfl⟩
              | n + 2, hi => exact absurd hi (by simp [inL])
            obtain ⟨A8, c8, hu, hr8⟩ := (kn (t := 48) (j := 8) (by kernel_rfl)) a8 w8 hg8 hkn
            have hs8 : a8.eval (.tmp 45) = .slice Ak SK.length ck := (kn (t := 45) (j := 5) (by kernel_rfl)) a8 w8 hg8 hkn
            have oA := OR.below oK.out hg8
            obtain ⟨A9, c9, wA, hrun, o9, _, k9, n9⟩ := run_append_rows (P := Try.prog) (w := w8) (base := w.heap.size) (E := 9) (size := 1) (n := SK.length) (v := .slice Ak SK.length ck) (xs := strs SK) 27 27 Try.underlying27 strRow oA w8.heap.size A8 1 c8 (strs [tb]) hr8 (strs_one _) (by unfold maxLen; omega) (by omega) (Nat.le_trans hbase hg8.size)
            have xA := (Off.of_grown k9 (so_typ oA)).blk (blk_more x4.out hg8) (by decide)
            refine ⟨.slice A9 (SK.length + 1) c9, wA, ?_, fun i o hi hE ho => ?_, fun w9 hg9 => ?_⟩
            · exact exec_append (.tmp 45) (.tmp 48) 27 rfl hs8 hu hrun
            · match i, hi, hE, ho with
              | 0, _, _, ho =>
                obtain rfl := Option.some.inj ho
                exact late_p1 rfl rfl rfl (kn0 (t := 7) (c := .pointer (some ⟨wr.heap.size, 0, none⟩)) (by kernel_rfl) rfl) (fun ρ w' hρ hg => by simp [execOp, hρ, go_sem]; try rfl)
              | 1, _, _, ho =>
                obtain rfl := Option.some.inj ho
                exact late_p1 rfl rfl rfl (kn (t := 40) (j := 0) (by kernel_rfl)) (fun ρ w' hρ hg => by simp [execOp, hρ, go_sem, (blk_more xA hg).cell 1])
              | n + 2, _, hE, _ => exact absurd hE (by simp [inL])
            intro v0 _ v1 h1 v2 _ v3 _ v4 _ v5 _ v6 _ v7 _ v8 _ v9 h9
            obtain rfl : v1 = .int .i64 (k : Int) := h1
            obtain rfl : v9 = .slice A9 (SK.length + 1) c9 := h9
            simp only [GFin, List.take_succ_cons, List.take_zero, List.drop_succ_cons, List.drop_zero, Act.put, List.setIfInBounds_toArray, List.set_cons_succ, List.set_cons_zero]
            have pt := hput.out _ w9 _ hg8 (by rw [strs_append]; exact OR.below o9 hg9) (grown_gr k9 hg9) n9
            obtain ⟨z0, z1, bz⟩ := pt.blk
            have f9 := bz.frozen k
            obtain ⟨vw, d9⟩ := pt.was
            have xx := pt.off.blk x4.out (by decide)
            replace xx := Lib.hid xx
            replace pt := Lib.hid pt
            clear bz o9 k9 n9 oA xA hrun hs8 hu hr8
            have xX := pt.out.off2.blk xx.out (by decide)
            have a0X := xX.cell 0
            have BX := Lib.hid (show Br (w9.setCell ⟨gs, k, none⟩ (.slice A9 (SK.length + 1) c9)) w.heap.size g gs (j + 1) pa pb _ _ _ u5 from ⟨pt.out.off2.lk (pt.out.off.lk q1.out (by decide) (by decide) (by decide)) (by decide) (by decide) (by decide), hok.out.1, hok.out.2, pt.out.sn, pt.out.off2.or_ (pt.out.off.or_ tn4.out (by decide)) (by decide), ⟨addS_len ln.out.1, addS_len ln.out.2.1, Nat.le_succ_of_le ln.out.2.2⟩, hgd.out.1, hgd.out.2, addS_p ss.out.1 hbj, addS_p ss.out.2 hbj, tbb.out⟩)
            have GX := Lib.hid (show Gr w (w9.setCell ⟨gs, k, none⟩ (.slice A9 (SK.length + 1) c9)) from Below.trans G4.out pt.out.bel)

            have hl0 := Lib.hid (by exact len_k (k := 0) (by omega) _ BX.out.lk : Calls Try.prog 9 #[.pointer (some ⟨g, 0, none⟩), .int .i64 0] _ fun e w' => e = .returned (.int .i64 (pa.l.length : Int)) ∧ w' = _)
            have hl1 := Lib.hid (by exact len_k (k := 1) (by omega) _ BX.out.lk : Calls Try.prog 9 #[.pointer (some ⟨g, 0, none⟩), .int .i64 1] _ fun e w' => e = .returned (.int .i64 (pb.l.length : Int)) ∧ w' = _)
            have hq0 : ¬ (16 : Int) < (pa.l.length : Int) := by have := BX.out.oa.l; omega
            have hq1 : ¬ (16 : Int) < (pb.l.length : Int) := by have := BX.out.ob.l; omega
            go_wp2_with fail
            refine hl0.out.mono ?_
            rintro e wx ⟨rfl, hwx⟩
            replace hwx := hwx.symm
            subst hwx
            go_wp2_with fail
            refine hl1.out.mono ?_
            rintro e wx ⟨rfl, hwx⟩
            replace hwx := hwx.symm
            subst hwx
            clear hl0 hl1

            go_wp2
            exact ⟨⟨j + 1, by omega, by go_num, GX, Lib.hid ⟨_, _, _, _, _, BX.out⟩⟩, by simp [intOf]; omega⟩
          · skip
            have hown := Lib.hid (fun n hn => (World.ownsRow.lt tw.out.tn n hn).2)
            go_wp2_with fail
            have Wa := (Gr.refl wr).alloc (.cells #[.int .i64 0, .int .i64 tw_, .int .i64 ti, .int .i64 tt, .int .u32 (n32 tm), str tb] 31)
            have T8 := tw.out.gr Wa
            obtain ⟨v0, v1, bs, o0, o1, hdis⟩ := T8.sn
            have bx := Blk.new wr 31 #[.int .i64 0, .int .i64 tw_, .int .i64 ti, .int .i64 tt, .int .u32 (n32 tm), str tb]
            have G8 := gr.out.trans Wa
            have l8 : wr.heap.size < (wr.alloc (.cells #[.int .i64 0, .int .i64 tw_, .int .i64 ti, .int .i64 tt, .int .u32 (n32 tm), str tb] 31)).heap.size := by simp
            generalize wr.alloc (.cells #[.int .i64 0, .int .i64 tw_, .int .i64 ti, .int .i64 tt, .int .u32 (n32 tm), str tb] 31) = W8 at T8 bs o0 o1 bx G8 l8 ⊢
            have hdo := do_any T8.lk (T8.oa.ok (by omega)) (T8.ob.ok (by omega)) ⟨0, tw_, ti, tt, tm, tb⟩ hbj ht1 ht2
            have hok := doP_okj T8.oa T8.ob ⟨0, tw_, ti, tt, tm, tb⟩ hbj
            have hgd := doP_good ⟨0, tw_, ti, tt, tm, tb⟩ T8.g0 T8.g1
            have hpo := doP_ok a b ⟨0, tw_, ti, tt, tm, tb⟩ rfl
            rw [decide_eq_false hw] at hpo
            generalize doP a b ⟨0, tw_, ti, tt, tm, tb⟩ = P at hdo hok hgd hpo
            obtain ⟨pa, pb, ps, po⟩ := P
            refine hdo.mono ?_
            rintro e W4 ⟨rfl, q1, q2, q3⟩
            simp only at hpo q1 hok hgd
            subst hpo
            have G4 := Lib.hid (show Gr w W4 from Below.trans G8 (Below.mono q3 lgw))
            have x4 := q2.blk bx (by decide) (by decide)
            have b4 := q2.blk bs (by decide) (by decide)
            have u0 := Lib.hid (q2.or_ o0 (by decide) (by decide))
            have u1 := Lib.hid (q2.or_ o1 (by decide) (by decide))
            have tn4 := Lib.hid (q2.or_ T8.tn (by decide) (by decide))
            rw [sent_same S0 _ 0 (.inr (fun e => hw (.inl e))), sent_same S1 _ 1 (.inr (fun e => hw (.inr e))), trns_same T _ (by simp) (by simp)] at hgd
            have ln := Lib.hid T8.ln
            have ss := Lib.hid (And.intro T8.s0 T8.s1)
            have tbb := Lib.hid T8.tb
            have a0 := x4.cell 0
            have a1 := x4.cell 1
            have a5 := x4.cell 5
            have l4 := x4.lt
            replace x4 := Lib.hid x4
            replace b4 := Lib.hid b4
            replace q1 := Lib.hid q1
            replace hok := Lib.hid hok
            replace hgd := Lib.hid hgd
            replace hdis := Lib.hid hdis
            clear T8 bs o0 o1 bx G8 q2 q3 Wa e0 e1 e2 e3 e4 e5 tw gr hdo

            have BX := Lib.hid (show Br W4 w.heap.size g gs (j + 1) pa pb S0 S1 T u5 from ⟨q1.out, hok.out.1, hok.out.2, ⟨v0, v1, b4.out, u0.out, u1.out, hdis.out⟩, tn4.out, ⟨Nat.le_succ_of_le ln.out.1, Nat.le_succ_of_le ln.out.2.1, Nat.le_succ_of_le ln.out.2.2⟩, hgd.out.1, hgd.out.2, ss.out.1, ss.out.2, tbb.out⟩)
            have GX := G4
            clear hdis u0 u1 tn4 ln ss tbb hok hgd G4 b4 q1

            have hl0 := Lib.hid (by exact len_k (k := 0) (by omega) _ BX.out.lk : Calls Try.prog 9 #[.pointer (some ⟨g, 0, none⟩), .int .i64 0] _ fun e w' => e = .returned (.int .i64 (pa.l.length : Int)) ∧ w' = _)
            have hl1 := Lib.hid (by exact len_k (k := 1) (by omega) _ BX.out.lk : Calls Try.prog 9 #[.pointer (some ⟨g, 0, none⟩), .int .i64 1] _ fun e w' => e = .returned (.int .i64 (pb.l.length : Int)) ∧ w' = _)
            have hq0 : ¬ (16 : Int) < (pa.l.length : Int) := by have := BX.out.oa.l; omega
            have hq1 : ¬ (16 : Int) < (pb.l.length : Int) := by have := BX.out.ob.l; omega
            go_wp2_with fail
            refine hl0.out.mono ?_
            rintro e wx ⟨rfl, hwx⟩
            replace hwx := hwx.symm
            subst hwx
            go_wp2_with fail
            refine hl1.out.mono ?_
            rintro e wx ⟨rfl, hwx⟩
            replace hwx := hwx.symm
            subst hwx
            clear hl0 hl1

            go_wp2
            exact ⟨⟨j + 1, by omega, by go_num, GX, Lib.hid ⟨_, _, _, _, _, BX.out⟩⟩, by simp [intOf]; omega⟩
        have k1 : (tk == 0) = false := by simp [h0]
        by_cases h3 : tk < 0 ∨ 3 < tk
        · have k2 : (tk != 1) = true := by rw [bne_iff_ne]; omega
          rcases Int.lt_or_le tk 0 with h4 | h4
          · have hd1 : decide (tk < 0) = true := by simp [h4]
            have hown := Lib.hid (fun n hn => (World.ownsRow.lt tw.out.tn n hn).2)
            go_wp2_with fail
            have Wa := (Gr.refl wr).alloc (.cells #[.int .i64 tk, .int .i64 tw_, .int .i64 ti, .int .i64 tt, .int .u32 (n32 tm), str tb] 31)
            have T8 := tw.out.gr Wa
            obtain ⟨v0, v1, bs, o0, o1, hdis⟩ := T8.sn
            have bx := Blk.new wr 31 #[.int .i64 tk, .int .i64 tw_, .int .i64 ti, .int .i64 tt, .int .u32 (n32 tm), str tb]
            have G8 := gr.out.trans Wa
            have l8 : wr.heap.size < (wr.alloc (.cells #[.int .i64 tk, .int .i64 tw_, .int .i64 ti, .int .i64 tt, .int .u32 (n32 tm), str tb] 31)).heap.size := by simp
            generalize wr.alloc (.cells #[.int .i64 tk, .int .i64 tw_, .int .i64 ti, .int .i64 tt, .int .u32 (n32 tm), str tb] 31) = W8 at T8 bs o0 o1 bx G8 l8 ⊢
            have hdo := do_any T8.lk (T8.oa.ok (by omega)) (T8.ob.ok (by omega)) ⟨tk, tw_, ti, tt, tm, tb⟩ hbj ht1 ht2
            have hok := doP_okj T8.oa T8.ob ⟨tk, tw_, ti, tt, tm, tb⟩ hbj
            have hgd := doP_good ⟨tk, tw_, ti, tt, tm, tb⟩ T8.g0 T8.g1
            have hpo : True := trivial
            generalize doP a b ⟨tk, tw_, ti, tt, tm, tb⟩ = P at hdo hok hgd
            obtain ⟨pa, pb, ps, po⟩ := P
            refine hdo.mono ?_
            rintro e W4 ⟨rfl, q1, q2, q3⟩
            simp only at hpo q1 hok hgd

            have G4 := Lib.hid (show Gr w W4 from Below.trans G8 (Below.mono q3 lgw))
            have x4 := q2.blk bx (by decide) (by decide)
            have b4 := q2.blk bs (by decide) (by decide)
            have u0 := Lib.hid (q2.or_ o0 (by decide) (by decide))
            have u1 := Lib.hid (q2.or_ o1 (by decide) (by decide))
            have tn4 := Lib.hid (q2.or_ T8.tn (by decide) (by decide))
            rw [sent_same S0 _ 0 (.inl h0), sent_same S1 _ 1 (.inl h0), trns_add T _ h3] at hgd
            have ln := Lib.hid T8.ln
            have ss := Lib.hid (And.intro T8.s0 T8.s1)
            have tbb := Lib.hid T8.tb
            have a0 := x4.cell 0
            have a1 := x4.cell 1
            have a5 := x4.cell 5
            have l4 := x4.lt
            replace x4 := Lib.hid x4
            replace b4 := Lib.hid b4
            replace q1 := Lib.hid q1
            replace hok := Lib.hid hok
            replace hgd := Lib.hid hgd
            replace hdis := Lib.hid hdis
            clear T8 bs o0 o1 bx G8 q2 q3 Wa e0 e1 e2 e3 e4 e5 tw gr hdo

            have hbase : w.heap.size ≤ W4.heap.size := G4.out.size
            obtain ⟨At, ct, rfl, htc, htm⟩ := OR.shape tn4.out
            have hbs : ∀ w : World, (Instr.buildSlice 22 1 #[(0, .agg #[.int .i64 tk, .int .i64 tw_, .int .i64 ti, .int .i64 tt, .int .u32 (n32 tm), str tb])]).run Try.prog w = .ok (.slice (some ⟨w.heap.size, 0, none⟩) 1 1) (w.alloc (.cells #[.int .i64 tk, .int .i64 tw_, .int .i64 ti, .int .i64 tt, .int .u32 (n32 tm), str tb] 31)) := fun w => by kernel_rfl
            have gA := (Gr.refl W4).alloc (.cells #[.int .i64 tk, .int .i64 tw_, .int .i64 ti, .int .i64 tt, .int .u32 (n32 tm), str tb] 31)
            have oA := Lib.hid (OR.below tn4.out gA)
            have nA := Lib.hid (new1a W4 ⟨tk, tw_, ti, tt, tm, tb⟩)
            have hln := ln.out.2.2
            replace gA := Lib.hid gA
            go_wp2_with (first
              | ((with_reducible refine wpList_isLoad 31 (.tmp 7) rfl ?_); refine wpList_load_row rfl 31 (.tmp 7) rfl wr.heap.size rfl 31 _ (0, 0) _ x4.out Try.underlying31 rfl (acInfo _ _ _ _ _ _) ?_)
              | ((with_reducible refine wpList_isApp (.tmp 59) (.tmp 61) 22 rfl ?_); refine wpList_append_full (base := w.heap.size) (n := T.length) (v := .slice At T.length ct) (xs := acs T) rfl (.tmp 59) (.tmp 61) 22 rfl Try.underlying22 actRow rfl oA.out (W4.heap.size + 1) (some ⟨W4.heap.size, 0, none⟩) 1 1 (acs [⟨tk, tw_, ti, tt, tm, tb⟩]) rfl nA.out (acs_one _) (by unfold maxLen; omega) (by omega) (Nat.le_trans hbase gA.out.size) (acs (T ++ [⟨tk, tw_, ti, tt, tm, tb⟩])) (acs_append _ _) (T.length + 1) rfl ?_; intro A9 c9 w9 o9 k9 n9; obtain ⟨p1, p2⟩ := app_off (n := T.length) (m := 0) (v9 := .slice A9 (T.length + 1) c9) (ys := []) tn4.out gA.out hbase k9; have a0 := ((blk_more x4.out gA.out).grown k9 (fun e => absurd (hown.out _ e.symm) (Nat.lt_irrefl _))).cell 0; have BX := Lib.hid (show Br w9 w.heap.size g gs (j + 1) pa pb S0 S1 (T ++ [⟨tk, tw_, ti, tt, tm, tb⟩]) (.slice A9 (T.length + 1) c9) from ⟨p1.lk q1.out (by decide) (by decide) (by decide), hok.out.1, hok.out.2, ⟨v0, v1, p1.blk b4.out (by decide), p1.or_ u0.out (by decide), p1.or_ u1.out (by decide), hdis.out⟩, (by unfold TO; rw [List.length_append]; exact o9), ⟨Nat.le_succ_of_le ln.out.1, Nat.le_succ_of_le ln.out.2.1, (by rw [List.length_append]; exact Nat.succ_le_succ hln)⟩, hgd.out.1, hgd.out.2, ss.out.1, ss.out.2, snoc_tb tbb.out ht1 ht2⟩); have GX := Lib.hid (show Gr w w9 from Below.trans G4.out p2); clear p1 p2 o9 k9 n9 oA nA gA)
              | fail)

            have hl0 := Lib.hid (by exact len_k (k := 0) (by omega) _ BX.out.lk : Calls Try.prog 9 #[.pointer (some ⟨g, 0, none⟩), .int .i64 0] _ fun e w' => e = .returned (.int .i64 (pa.l.length : Int)) ∧ w' = _)
            have hl1 := Lib.hid (by exact len_k (k := 1) (by omega) _ BX.out.lk : Calls Try.prog 9 #[.pointer (some ⟨g, 0, none⟩), .int .i64 1] _ fun e w' => e = .returned (.int .i64 (pb.l.length : Int)) ∧ w' = _)
            have hq0 : ¬ (16 : Int) < (pa.l.length : Int) := by have := BX.out.oa.l; omega
            have hq1 : ¬ (16 : Int) < (pb.l.length : Int) := by have := BX.out.ob.l; omega
            go_wp2_with fail
            refine hl0.out.mono ?_
            rintro e wx ⟨rfl, hwx⟩
            replace hwx := hwx.symm
            subst hwx
            go_wp2_with fail
            refine hl1.out.mono ?_
            rintro e wx ⟨rfl, hwx⟩
            replace hwx := hwx.symm
            subst hwx
            clear hl0 hl1

            go_wp2
            exact ⟨⟨j + 1, by omega, by go_num, GX, Lib.hid ⟨_, _, _, _, _, BX.out⟩⟩, by simp [intOf]; omega⟩
          · have hd1 : decide (tk < 0) = false := by simp; omega
            have hd2 : decide (3 < tk) = true := by simp; omega
            have hown := Lib.hid (fun n hn => (World.ownsRow.lt tw.out.tn n hn).2)
            go_wp2_with fail
            have Wa := (Gr.refl wr).alloc (.cells #[.int .i64 tk, .int .i64 tw_, .int .i64 ti, .int .i64 tt, .int .u32 (n32 tm), str tb] 31)
            have T8 := tw.out.gr Wa
            obtain ⟨v0, v1, bs, o0, o1, hdis⟩ := T8.sn
            have bx := Blk.new wr 31 #[.int .i64 tk, .int .i64 tw_, .int .i64 ti, .int .i64 tt, .int .u32 (n32 tm), str tb]
            have G8 := gr.out.trans Wa
            have l8 : wr.heap.size < (wr.alloc (.cells #[.int .i64 tk, .int .i64 tw_, .int .i64 ti, .int .i64 tt, .int .u32 (n32 tm), str tb] 31)).heap.size := by simp
            generalize wr.alloc (.cells #[.int .i64 tk, .int .i64 tw_, .int .i64 ti, .int .i64 tt, .int .u32 (n32 tm), str tb] 31) = W8 at T8 bs o0 o1 bx G8 l8 ⊢
            have hdo := do_any T8.lk (T8.oa.ok (by omega)) (T8.ob.ok (by omega)) ⟨tk, tw_, ti, tt, tm, tb⟩ hbj ht1 ht2
            have hok := doP_okj T8.oa T8.ob ⟨tk, tw_, ti, tt, tm, tb⟩ hbj
            have hgd := doP_good ⟨tk, tw_, ti, tt, tm, tb⟩ T8.g0 T8.g1
            have hpo : True := trivial
            generalize doP a b ⟨tk, tw_, ti, tt, tm, tb⟩ = P at hdo hok hgd
            obtain ⟨pa, pb, ps, po⟩ := P
            refine hdo.mono ?_
            rintro e W4 ⟨rfl, q1, q2, q3⟩
            simp only at hpo q1 hok hgd

            have G4 := Lib.hid (show Gr w W4 from Below.trans G8 (Below.mono q3 lgw))
            have x4 := q2.blk bx (by decide) (by decide)
            have b4 := q2.blk bs (by decide) (by decide)
            have u0 := Lib.hid (q2.or_ o0 (by decide) (by decide))
            have u1 := Lib.hid (q2.or_ o1 (by decide) (by decide))
            have tn4 := Lib.hid (q2.or_ T8.tn (by decide) (by decide))
            rw [sent_same S0 _ 0 (.inl h0), sent_same S1 _ 1 (.inl h0), trns_add T _ h3] at hgd
            have ln := Lib.hid T8.ln
            have ss := Lib.hid (And.intro T8.s0 T8.s1)
            have tbb := Lib.hid T8.tb
            have a0 := x4.cell 0
            have a1 := x4.cell 1
            have a5 := x4.cell 5
            have l4 := x4.lt
            replace x4 := Lib.hid x4
            replace b4 := Lib.hid b4
            replace q1 := Lib.hid q1
            replace hok := Lib.hid hok
            replace hgd := Lib.hid hgd
            replace hdis := Lib.hid hdis
            clear T8 bs o0 o1 bx G8 q2 q3 Wa e0 e1 e2 e3 e4 e5 tw gr hdo

            have hbase : w.heap.size ≤ W4.heap.size := G4.out.size
            obtain ⟨At, ct, rfl, htc, htm⟩ := OR.shape tn4.out
            have hbs : ∀ w : World, (Instr.buildSlice 22 1 #[(0, .agg #[.int .i64 tk, .int .i64 tw_, .int .i64 ti, .int .i64 tt, .int .u32 (n32 tm), str tb])]).run Try.prog w = .ok (.slice (some ⟨w.heap.size, 0, none⟩) 1 1) (w.alloc (.cells #[.int .i64 tk, .int .i64 tw_, .int .i64 ti, .int .i64 tt, .int .u32 (n32 tm), str tb] 31)) := fun w => by kernel_rfl
            have gA := (Gr.refl W4).alloc (.cells #[.int .i64 tk, .int .i64 tw_, .int .i64 ti, .int .i64 tt, .int .u32 (n32 tm), str tb] 31)
            have oA := Lib.hid (OR.below tn4.out gA)
            have nA := Lib.hid (new1a W4 ⟨tk, tw_, ti, tt, tm, tb⟩)
            have hln := ln.out.2.2
            replace gA := Lib.hid gA
            go_wp2_with (first
              | ((with_reducible refine wpList_isLoad 31 (.tmp 7) rfl ?_); refine wpList_load_row rfl 31 (.tmp 7) rfl wr.heap.size rfl 31 _ (0, 0) _ x4.out Try.underlying31 rfl (acInfo _ _ _ _ _ _) ?_)
              | ((with_reducible refine wpList_isApp (.tmp 59) (.tmp 61) 22 rfl ?_); refine wpList_append_full (base := w.heap.size) (n := T.length) (v := .slice At T.length ct) (xs := acs T) rfl (.tmp 59) (.tmp 61) 22 rfl Try.underlying22 actRow rfl oA.out (W4.heap.size + 1) (some ⟨W4.heap.size, 0, none⟩) 1 1 (acs [⟨tk, tw_, ti, tt, tm, tb⟩]) rfl nA.out (acs_one _) (by unfold maxLen; omega) (by omega) (Nat.le_trans hbase gA.out.size) (acs (T ++ [⟨tk, tw_, ti, tt, tm, tb⟩])) (acs_append _ _) (T.length + 1) rfl ?_; intro A9 c9 w9 o9 k9 n9; obtain ⟨p1, p2⟩ := app_off (n := T.length) (m := 0) (v9 := .slice A9 (T.length + 1) c9) (ys := []) tn4.out gA.out hbase k9; have a0 := ((blk_more x4.out gA.out).grown k9 (fun e => absurd (hown.out _ e.symm) (Nat.lt_irrefl _))).cell 0; have BX := Lib.hid (show Br w9 w.heap.size g gs (j + 1) pa pb S0 S1 (T ++ [⟨tk, tw_, ti, tt, tm, tb⟩]) (.slice A9 (T.length + 1) c9) from ⟨p1.lk q1.out (by decide) (by decide) (by decide), hok.out.1, hok.out.2, ⟨v0, v1, p1.blk b4.out (by decide), p1.or_ u0.out (by decide), p1.or_ u1.out (by decide), hdis.out⟩, (by unfold TO; rw [List.length_append]; exact o9), ⟨Nat.le_succ_of_le ln.out.1, Nat.le_succ_of_le ln.out.2.1, (by rw [List.length_append]; exact Nat.succ_le_succ hln)⟩, hgd.out.1, hgd.out.2, ss.out.1, ss.out.2, snoc_tb tbb.out ht1 ht2⟩); have GX := Lib.hid (show Gr w w9 from Below.trans G4.out p2); clear p1 p2 o9 k9 n9 oA nA gA)
              | fail)

            have hl0 := Lib.hid (by exact len_k (k := 0) (by omega) _ BX.out.lk : Calls Try.prog 9 #[.pointer (some ⟨g, 0, none⟩), .int .i64 0] _ fun e w' => e = .returned (.int .i64 (pa.l.length : Int)) ∧ w' = _)
            have hl1 := Lib.hid (by exact len_k (k := 1) (by omega) _ BX.out.lk : Calls Try.prog 9 #[.pointer (some ⟨g, 0, none⟩), .int .i64 1] _ fun e w' => e = .returned (.int .i64 (pb.l.length : Int)) ∧ w' = _)
            have hq0 : ¬ (16 : Int) < (pa.l.length : Int) := by have := BX.out.oa.l; omega
            have hq1 : ¬ (16 : Int) < (pb.l.length : Int) := by have := BX.out.ob.l; omega
            go_wp2_with fail
            refine hl0.out.mono ?_
            rintro e wx ⟨rfl, hwx⟩
            replace hwx := hwx.symm
            subst hwx
            go_wp2_with fail
            refine hl1.out.mono ?_
            rintro e wx ⟨rfl, hwx⟩
            replace hwx := hwx.symm
            subst hwx
            clear hl0 hl1

            go_wp2
            exact ⟨⟨j + 1, by omega, by go_num, GX, Lib.hid ⟨_, _, _, _, _, BX.out⟩⟩, by simp [intOf]; omega⟩
        by_cases h1 : tk = 1
        · subst h1
          by_cases hpo : (doP a b ⟨1, tw_, ti, tt, tm, tb⟩).2.2.2 = true
          · skip
            have hown := Lib.hid (fun n hn => (World.ownsRow.lt tw.out.tn n hn).2)
            go_wp2_with fail
            have Wa := (Gr.refl wr).alloc (.cells #[.int .i64 1, .int .i64 tw_, .int .i64 ti, .int .i64 tt, .int .u32 (n32 tm), str tb] 31)
            have T8 := tw.out.gr Wa
            obtain ⟨v0, v1, bs, o0, o1, hdis⟩ := T8.sn
            have bx := Blk.new wr 31 #[.int .i64 1, .int .i64 tw_, .int .i64 ti, .int .i64 tt, .int .u32 (n32 tm), str tb]
            have G8 := gr.out.trans Wa
            have l8 : wr.heap.size < (wr.alloc (.cells #[.int .i64 1, .int .i64 tw_, .int .i64 ti, .int .i64 tt, .int .u32 (n32 tm), str tb] 31)).heap.size := by simp
            generalize wr.alloc (.cells #[.int .i64 1, .int .i64 tw_, .int .i64 ti, .int .i64 tt, .int .u32 (n32 tm), str tb] 31) = W8 at T8 bs o0 o1 bx G8 l8 ⊢
            have hdo := do_any T8.lk (T8.oa.ok (by omega)) (T8.ob.ok (by omega)) ⟨1, tw_, ti, tt, tm, tb⟩ hbj ht1 ht2
            have hok := doP_okj T8.oa T8.ob ⟨1, tw_, ti, tt, tm, tb⟩ hbj
            have hgd := doP_good ⟨1, tw_, ti, tt, tm, tb⟩ T8.g0 T8.g1
            obtain ⟨k, hk2, hwk, fd⟩ := told_k (c := ⟨1, tw_, ti, tt, tm, tb⟩) rfl T8.g0 T8.g1 hpo
            simp only at hwk
            generalize doP a b ⟨1, tw_, ti, tt, tm, tb⟩ = P at hdo hok hgd hpo fd
            obtain ⟨pa, pb, ps, po⟩ := P
            refine hdo.mono ?_
            rintro e W4 ⟨rfl, q1, q2, q3⟩
            simp only at hpo q1 hok hgd
            simp only at fd
            subst hpo
            have G4 := Lib.hid (show Gr w W4 from Below.trans G8 (Below.mono q3 lgw))
            have x4 := q2.blk bx (by decide) (by decide)
            have b4 := q2.blk bs (by decide) (by decide)
            have u0 := Lib.hid (q2.or_ o0 (by decide) (by decide))
            have u1 := Lib.hid (q2.or_ o1 (by decide) (by decide))
            have tn4 := Lib.hid (q2.or_ T8.tn (by decide) (by decide))
            rw [sent_same S0 _ 0 (.inl (by simp)), sent_same S1 _ 1 (.inl (by simp)), trns_same T _ (by simp only; omega) (by simp only; omega)] at hgd
            have ln := Lib.hid T8.ln
            have ss := Lib.hid (And.intro T8.s0 T8.s1)
            have tbb := Lib.hid T8.tb
            have a0 := x4.cell 0
            have a1 := x4.cell 1
            have a5 := x4.cell 5
            have l4 := x4.lt
            replace x4 := Lib.hid x4
            replace b4 := Lib.hid b4
            replace q1 := Lib.hid q1
            replace hok := Lib.hid hok
            replace hgd := Lib.hid hgd
            replace hdis := Lib.hid hdis
            clear T8 bs o0 o1 bx G8 q2 q3 Wa e0 e1 e2 e3 e4 e5 tw gr hdo
            subst hwk
            have kk0 : (0 : Int) ≤ (k : Int) := by omega
            have kk2 : (k : Int) < 2 := by omega

            have hbase : w.heap.size ≤ W4.heap.size := G4.out.size
            obtain ⟨Ak, ck, hcell, oK, hck, hcm, _⟩ := sn_put tb k hk2 b4.out u0.out u1.out hdis.out hbase lg
            obtain ⟨At, ct, rfl, htc, htm⟩ := OR.shape tn4.out
            have lS : Hid (∀ s ∈ selS k S0 S1, s.length ≤ 100) := Lib.hid (selS_p ss.out.1 ss.out.2)
            have oT := Lib.hid tn4.out
            have hsl := selS_len (k := k) ln.out.1 ln.out.2.1
            have htl := ln.out.2.2
            have tB := Lib.hid tbb.out
            have ck_ := (b4.out.cell k).trans hcell
            have lgs := b4.out.lt

            have BX := Lib.hid (show Br W4 w.heap.size g gs (j + 1) pa pb S0 S1 T (.slice At T.length ct) from ⟨q1.out, hok.out.1, hok.out.2, ⟨v0, v1, b4.out, u0.out, u1.out, hdis.out⟩, tn4.out, ⟨Nat.le_succ_of_le ln.out.1, Nat.le_succ_of_le ln.out.2.1, Nat.le_succ_of_le ln.out.2.2⟩, hgd.out.1, hgd.out.2, ss.out.1, ss.out.2, tbb.out⟩)
            have GX := G4
            clear hdis u0 u1 tn4 ln ss tbb hok hgd G4 b4 q1

            replace oK := Lib.hid oK
            replace fd := Lib.hid fd
            generalize selS k S0 S1 = SK at *
            clear hcell

            have hl0 := Lib.hid (by exact len_k (k := 0) (by omega) _ BX.out.lk : Calls Try.prog 9 #[.pointer (some ⟨g, 0, none⟩), .int .i64 0] _ fun e w' => e = .returned (.int .i64 (pa.l.length : Int)) ∧ w' = _)
            have hl1 := Lib.hid (by exact len_k (k := 1) (by omega) _ BX.out.lk : Calls Try.prog 9 #[.pointer (some ⟨g, 0, none⟩), .int .i64 1] _ fun e w' => e = .returned (.int .i64 (pb.l.length : Int)) ∧ w' = _)
            have hq0 : ¬ (16 : Int) < (pa.l.length : Int) := by have := BX.out.oa.l; omega
            have hq1 : ¬ (16 : Int) < (pb.l.length : Int) := by have := BX.out.ob.l; omega
            go_wp2_with fail
            refine hl0.out.mono ?_
            rintro e wx ⟨rfl, hwx⟩
            replace hwx := hwx.symm
            subst hwx
            go_wp2_with fail
            refine hl1.out.mono ?_
            rintro e wx ⟨rfl, hwx⟩
            replace hwx := hwx.symm
            subst hwx
            clear hl0 hl1

            clear hown
            generalize wr.heap.size = n8 at *
            go_wp2
            go_loopw [10, 11, 12] (fun f kk _ wq => ∃ K : Nat, K ≤ SK.length ∧ kk = .int .i64 (K : Int) ∧ f = .bool (fnd (SK.take K) T ps) ∧ Hid (Gr W4 wq)) (fun _ kk _ _ => SK.length - (intOf kk).toNat)
            case atStart => exact ⟨0, by omega, rfl, by rw [fnd_zero], Lib.hid (Gr.refl W4)⟩
            case round =>
              obtain ⟨K, hK, rfl, rfl, g7⟩ := hrel
              have a1 := (blk_more x4.out g7.out).cell 1
              have ck1 := (g7.out.cell (p := ⟨gs, k, none⟩) lgs).trans ck_
              by_cases hKl : K < SK.length
              · obtain ⟨adk, rfl, lk1, ek⟩ := so_at (OR.below oK.out g7.out) hKl
                have iK0 : (0 : Int) ≤ (K : Int) := by omega
                have iK1 : (K : Int) < (SK.length : Int) := by omega
                have hsn := fnd_snoc SK T ps K hKl
                have hxl := lS.out _ (List.getElem_mem hKl)
                have hKl0 := hKl
                obtain ⟨x, hx0⟩ : ∃ x, SK[K] = x := ⟨_, rfl⟩
                rw [hx0] at hsn hxl ek
                have hxe := Lib.hid hx0
                clear hx0
                cases hb : fnd (SK.take K) T ps with
                | true =>
                  rw [hb, Bool.true_or] at hsn
                  replace hsn := Lib.hid hsn
                  clear hb
                  go_wp2
                  go_loopw [10, 12] (fun f tt wq => ∃ t : Nat, t ≤ T.length ∧ tt = .int .i64 (t : Int) ∧ f = .bool true ∧ Hid (Gr W4 wq)) (fun _ tt _ => T.length - (intOf tt).toNat)
                  case atStart => exact ⟨0, by omega, rfl, rfl, g7⟩
                  case round =>
                    obtain ⟨t, ht, rfl, rfl, g9⟩ := hrel
                    by_cases htl2 : t < T.length
                    · have it1 : (t : Int) < (T.length : Int) := by omega
                      go_wp2
                      go_quiet (fail)
                      go_wp2
                      exact ⟨⟨t + 1, by omega, by go_num, rfl, Lib.hid (g9.out.trans (below_drewN (Below.refl _ _) _))⟩, by simp [intOf]; omega⟩
                    · obtain rfl : t = T.length := by omega
                      go_wp2
                      exact ⟨⟨K + 1, by omega, by go_num, by rw [hsn.out], g9⟩, by simp [intOf]; omega⟩
                | false =>
                  rw [hb, Bool.false_or] at hsn
                  replace hsn := Lib.hid hsn
                  clear hb
                  have hi0 := Lib.hid (ins_zero x ps T)
                  go_wp2
                  go_loopw [10, 12] (fun f tt wq => ∃ t : Nat, t ≤ T.length ∧ tt = .int .i64 (t : Int) ∧ f = .bool (ins x ps T t) ∧ Hid (Gr W4 wq)) (fun _ tt _ => T.length - (intOf tt).toNat)
                  case atStart => exact ⟨0, by omega, rfl, by rw [hi0.out], g7⟩
                  case round =>
                    obtain ⟨t, ht, rfl, rfl, g9⟩ := hrel
                    by_cases htl2 : t < T.length
                    · have it0 : (0 : Int) ≤ (t : Int) := by omega
                      have it1 : (t : Int) < (T.length : Int) := by omega
                      have hin := Lib.hid (ins_snoc x ps T t htl2)
                      cases hv : ins x ps T t with
                      | true =>
                        go_wp2
                        go_quiet (fail)
                        go_wp2
                        exact ⟨⟨t + 1, by omega, by go_num, by rw [hin.out, hv, Bool.true_or], Lib.hid (g9.out.trans (below_drewN (Below.refl _ _) _))⟩, by simp [intOf]; omega⟩
                      | false =>
                        rw [hv, Bool.false_or] at hin
                        obtain ⟨adt, rfl, lt1, f0, f1, f2, f3, f4, f5⟩ := AR.at_ (l := T) (OR.reads (OR.below oT.out g9.out)) htl2
                        obtain ⟨ht3, ht4⟩ := tB.out _ (List.getElem_mem htl2)
                        have x7 := Lib.hid (blk_more x4.out g9.out)
                        have ck2 := (g9.out.cell (p := ⟨gs, k, none⟩) lgs).trans ck_
                        have oK2 := OR.below oK.out g9.out
                        obtain ⟨adk2, hadk, lk2, ek2⟩ := so_at oK2 hKl0
                        cases hadk
                        rw [hxe.out] at ek2
                        generalize T[t] = u at *
                        obtain ⟨uk, uw, ui, ut, um, ub⟩ := u
                        simp only at f0 f1 f2 f3 f4 f5 ht3 ht4 hin
                        replace hin := Lib.hid hin
                        clear hv oK2
                        go_wp2
                        refine region_grow rfl (by kernel_rfl) ?_
                        refine GW.mv rfl trivial (.inl rfl) (kn0 (t := 10) (c := .bool false) (by kernel_rfl) rfl) (eqv_lasts _) ?_
                        refine GW.mv rfl trivial (.inl rfl) (kn (t := 105) (j := 0) (by kernel_rfl)) (eqv_lasts _) ?_
                        refine GW.p1 (.pointer (some ⟨n8, 1, none⟩)) rfl ⟨106, by kernel_rfl, by kernel_rfl, fun _ _ h => h⟩ (kn0 (t := 7) (c := .pointer (some ⟨n8, 0, none⟩)) (by kernel_rfl) rfl) (fun ρ w' hρ hg => by simp [execOp, hρ, go_sem]) ?_
                        refine GW.p1 (.int .i64 (k : Int)) rfl ⟨106, by kernel_rfl, by kernel_rfl, fun _ _ h => h⟩ (kn (t := 107) (j := 2) (by kernel_rfl)) (fun ρ w' hρ hg => by simp [execOp, hρ, go_sem, (hg.cell (p := ⟨n8, 1, none⟩) x7.out.lt).trans (x7.out.cell 1)]) ?_
                        refine GW.p2 (.pointer (some ⟨gs, k, none⟩)) rfl ⟨106, by kernel_rfl, by kernel_rfl, fun _ _ h => h⟩ (kn0 (t := 4) (c := .pointer (some ⟨gs, 0, none⟩)) (by kernel_rfl) rfl) (kn (t := 108) (j := 3) (by kernel_rfl)) (fun ρ w' h1 h2 hg => by simp [execOp, h1, h2, go_sem, kk0, kk2]) ?_
                        refine GW.p1 (.slice (some adk) SK.length ck) rfl ⟨106, by kernel_rfl, by kernel_rfl, fun _ _ h => h⟩ (kn (t := 109) (j := 4) (by kernel_rfl)) (fun ρ w' hρ hg => by simp [execOp, hρ, go_sem, (hg.cell (p := ⟨gs, k, none⟩) (Nat.lt_of_lt_of_le lgs g9.out.size)).trans ck2]) ?_
                        refine GW.mv rfl ⟨106, by kernel_rfl, by kernel_rfl, fun _ _ h => h⟩ (.inl rfl) (kn0 (t := 11) (c := .int .i64 (K : Int)) (by kernel_rfl) rfl) (eqv_lasts _) ?_
                        refine GW.p2 (.pointer (some (adk.add K))) rfl ⟨106, by kernel_rfl, by kernel_rfl, fun _ _ h => h⟩ (kn (t := 110) (j := 5) (by kernel_rfl)) (kn (t := 111) (j := 6) (by kernel_rfl)) (fun ρ w' h1 h2 hg => by show ((Instr.indexAt 27 (ρ (.tmp 110)) (ρ (.tmp 111)) >>= fun v => pure (Next.value v)) : Sem Next).run Try.prog w' = _; rw [h1, h2, Sem.run_bind, run_idxR w' Try.underlying27 (size := 1) (by kernel_rfl) adk _ _ K hKl0]; simp) ?_
                        refine GW.p1 (str x) rfl ⟨106, by kernel_rfl, by kernel_rfl, fun _ _ h => h⟩ (kn (t := 112) (j := 7) (by kernel_rfl)) (fun ρ w' hρ hg => by simp [execOp, hρ, go_sem, (hg.cell (p := (adk.add K)) (by rw [block_of_add]; exact lk2)).trans ek2]) ?_
                        refine GW.mv rfl ⟨106, by kernel_rfl, by kernel_rfl, fun _ _ h => h⟩ (.inl rfl) (kn0 (t := 5) (c := .slice (some adt) T.length ct) (by kernel_rfl) rfl) (eqv_lasts _) ?_
                        refine GW.mv rfl ⟨106, by kernel_rfl, by kernel_rfl, fun _ _ h => h⟩ (.inl rfl) (kn0 (t := 12) (c := .int .i64 (t : Int)) (by kernel_rfl) rfl) (eqv_lasts _) ?_
                        refine GW.p2 (.pointer (some (adt.add (t * 6)))) rfl ⟨106, by kernel_rfl, by kernel_rfl, fun _ _ h => h⟩ (kn (t := 114) (j := 9) (by kernel_rfl)) (kn (t := 115) (j := 10) (by kernel_rfl)) (fun ρ w' h1 h2 hg => by show ((Instr.indexAt 22 (ρ (.tmp 114)) (ρ (.tmp 115)) >>= fun v => pure (Next.value v)) : Sem Next).run Try.prog w' = _; rw [h1, h2, Sem.run_bind, run_idxR w' Try.underlying22 (size := 6) (by kernel_rfl) adt _ _ t htl2]; simp) ?_
                        refine GW.p1 (.pointer (some ⟨(adt.add (t * 6)).block, (adt.add (t * 6)).off + 3, none⟩)) rfl ⟨106, by kernel_rfl, by kernel_rfl, fun _ _ h => h⟩ (kn (t := 116) (j := 11) (by kernel_rfl)) (fun ρ w' hρ hg => by simp [execOp, hρ, go_sem]) ?_
                        refine GW.p1 (.int .i64 ut) rfl ⟨106, by kernel_rfl, by kernel_rfl, fun _ _ h => h⟩ (kn (t := 117) (j := 12) (by kernel_rfl)) (fun ρ w' hρ hg => by simp [execOp, hρ, go_sem, (hg.cell (p := ⟨(adt.add (t * 6)).block, (adt.add (t * 6)).off + 3, none⟩) (by rw [block_of_add]; exact lt1)).trans f3]) ?_
                        refine GW.mv rfl ⟨106, by kernel_rfl, by kernel_rfl, fun _ _ h => h⟩ (.inl rfl) (kn0 (t := 5) (c := .slice (some adt) T.length ct) (by kernel_rfl) rfl) (eqv_lasts _) ?_
                        refine GW.mv rfl ⟨106, by kernel_rfl, by kernel_rfl, fun _ _ h => h⟩ (.inl rfl) (kn0 (t := 12) (c := .int .i64 (t : Int)) (by kernel_rfl) rfl) (eqv_lasts _) ?_
                        refine GW.p2 (.pointer (some (adt.add (t * 6)))) rfl ⟨106, by kernel_rfl, by kernel_rfl, fun _ _ h => h⟩ (kn (t := 119) (j := 14) (by kernel_rfl)) (kn (t := 120) (j := 15) (by kernel_rfl)) (fun ρ w' h1 h2 hg => by show ((Instr.indexAt 22 (ρ (.tmp 119)) (ρ (.tmp 120)) >>= fun v => pure (Next.value v)) : Sem Next).run Try.prog w' = _; rw [h1, h2, Sem.run_bind, run_idxR w' Try.underlying22 (size := 6) (by kernel_rfl) adt _ _ t htl2]; simp) ?_
                        refine GW.p1 (.pointer (some ⟨(adt.add (t * 6)).block, (adt.add (t * 6)).off + 4, none⟩)) rfl ⟨106, by kernel_rfl, by kernel_rfl, fun _ _ h => h⟩ (kn (t := 121) (j := 16) (by kernel_rfl)) (fun ρ w' hρ hg => by simp [execOp, hρ, go_sem]) ?_
                        refine GW.p1 (.int .u32 (n32 um)) rfl ⟨106, by kernel_rfl, by kernel_rfl, fun _ _ h => h⟩ (kn (t := 122) (j := 17) (by kernel_rfl)) (fun ρ w' hρ hg => by simp [execOp, hρ, go_sem, (hg.cell (p := ⟨(adt.add (t * 6)).block, (adt.add (t * 6)).off + 4, none⟩) (by rw [block_of_add]; exact lt1)).trans f4]) ?_
                        refine GW.call3 (eqv (str (Crc.turned x ut um))) rfl ⟨106, by kernel_rfl, by kernel_rfl, fun _ _ h => h⟩ rfl Try.func10 (by kernel_rfl) (by kernel_rfl) (eqv_lasts _) (kn (t := 113) (j := 8) (by kernel_rfl)) (kn (t := 118) (j := 13) (by kernel_rfl)) (kn (t := 123) (j := 18) (by kernel_rfl)) (fun v u s w' hg hv hu hs' => ?_) ?_
                        · obtain rfl : v = _ := hv
                          obtain rfl : u = _ := hu
                          obtain rfl : s = _ := hs'
                          refine (Crc.refTurn_any x ut um w' (by omega) ht3 ht4).mono ?_
                          rintro e w9 ⟨rfl, hg9⟩
                          exact ⟨_, rfl, rfl, hg9⟩
                        refine GW.mv rfl ⟨106, by kernel_rfl, by kernel_rfl, fun _ _ h => h⟩ (.inl rfl) (kn0 (t := 8) (c := str ps) (by kernel_rfl) rfl) (eqv_lasts _) ?_
                        refine GW.bin (.bool (Crc.turned x ut um == ps)) rfl ⟨106, by kernel_rfl, by kernel_rfl, fun _ _ h => h⟩ rfl (kn (t := 124) (j := 19) (by kernel_rfl)) (kn (t := 125) (j := 20) (by kernel_rfl)) (fun w' => run_eql_str' _ _ _ _ _ w') ?_
                        refine GW.pick (b := false) rfl trivial rfl (kn (t := 106) (j := 1) (by kernel_rfl)) (kn (t := 126) (j := 21) (by kernel_rfl)) (eqv_lasts _) ?_
                        refine GW.mv rfl trivial (.inr rfl) (kn (t := 127) (j := 22) (by kernel_rfl)) (eqv_lasts _) ?_
                        refine GW.done (by simp) (by kernel_rfl) (fun w6 hg => ?_)
                        intro v0 _ v1 _ v2 _ v3 _ v4 _ v5 _ v6 _ v7 _ v8 _ v9 _ v10 _ v11 _ v12 _ v13 _ v14 _ v15 _ v16 _ v17 _ v18 _ v19 _ v20 _ v21 _ v22 _ v23 h23
                        obtain rfl : v23 = (.bool (Crc.turned x ut um == ps)) := h23
                        simp only [GFin, Act.put, List.setIfInBounds_toArray, List.set_cons_succ, List.set_cons_zero]
                        go_wp2
                        exact ⟨⟨t + 1, by omega, by go_num, by rw [hin.out], Lib.hid (g9.out.trans hg)⟩, by simp [intOf]; omega⟩
                    · obtain rfl : t = T.length := by omega
                      go_wp2
                      exact ⟨⟨K + 1, by omega, by go_num, by rw [hsn.out], g9⟩, by simp [intOf]; omega⟩
              · obtain rfl : K = SK.length := by omega
                rw [List.take_length, fd.out]
                have BX2 := Lib.hid (BX.out.gr g7.out)
                have GX2 := Lib.hid (GX.out.trans g7.out)
                go_wp2
                exact ⟨⟨j + 1, by omega, by go_num, GX2, Lib.hid ⟨_, _, _, _, _, BX2.out⟩⟩, by simp [intOf]; omega⟩
          · replace hpo : (doP a b ⟨1, tw_, ti, tt, tm, tb⟩).2.2.2 = false := by simpa using hpo
            have hown := Lib.hid (fun n hn => (World.ownsRow.lt tw.out.tn n hn).2)
            go_wp2_with fail
            have Wa := (Gr.refl wr).alloc (.cells #[.int .i64 1, .int .i64 tw_, .int .i64 ti, .int .i64 tt, .int .u32 (n32 tm), str tb] 31)
            have T8 := tw.out.gr Wa
            obtain ⟨v0, v1, bs, o0, o1, hdis⟩ := T8.sn
            have bx := Blk.new wr 31 #[.int .i64 1, .int .i64 tw_, .int .i64 ti, .int .i64 tt, .int .u32 (n32 tm), str tb]
            have G8 := gr.out.trans Wa
            have l8 : wr.heap.size < (wr.alloc (.cells #[.int .i64 1, .int .i64 tw_, .int .i64 ti, .int .i64 tt, .int .u32 (n32 tm), str tb] 31)).heap.size := by simp
            generalize wr.alloc (.cells #[.int .i64 1, .int .i64 tw_, .int .i64 ti, .int .i64 tt, .int .u32 (n32 tm), str tb] 31) = W8 at T8 bs o0 o1 bx G8 l8 ⊢
            have hdo := do_any T8.lk (T8.oa.ok (by omega)) (T8.ob.ok (by omega)) ⟨1, tw_, ti, tt, tm, tb⟩ hbj ht1 ht2
            have hok := doP_okj T8.oa T8.ob ⟨1, tw_, ti, tt, tm, tb⟩ hbj
            have hgd := doP_good ⟨1, tw_, ti, tt, tm, tb⟩ T8.g0 T8.g1
            generalize doP a b ⟨1, tw_, ti, tt, tm, tb⟩ = P at hdo hok hgd hpo
            obtain ⟨pa, pb, ps, po⟩ := P
            refine hdo.mono ?_
            rintro e W4 ⟨rfl, q1, q2, q3⟩
            simp only at hpo q1 hok hgd
            subst hpo
            have G4 := Lib.hid (show Gr w W4 from Below.trans G8 (Below.mono q3 lgw))
            have x4 := q2.blk bx (by decide) (by decide)
            have b4 := q2.blk bs (by decide) (by decide)
            have u0 := Lib.hid (q2.or_ o0 (by decide) (by decide))
            have u1 := Lib.hid (q2.or_ o1 (by decide) (by decide))
            have tn4 := Lib.hid (q2.or_ T8.tn (by decide) (by decide))
            rw [sent_same S0 _ 0 (.inl (by simp)), sent_same S1 _ 1 (.inl (by simp)), trns_same T _ (by simp only; omega) (by simp only; omega)] at hgd
            have ln := Lib.hid T8.ln
            have ss := Lib.hid (And.intro T8.s0 T8.s1)
            have tbb := Lib.hid T8.tb
            have a0 := x4.cell 0
            have a1 := x4.cell 1
            have a5 := x4.cell 5
            have l4 := x4.lt
            replace x4 := Lib.hid x4
            replace b4 := Lib.hid b4
            replace q1 := Lib.hid q1
            replace hok := Lib.hid hok
            replace hgd := Lib.hid hgd
            replace hdis := Lib.hid hdis
            clear T8 bs o0 o1 bx G8 q2 q3 Wa e0 e1 e2 e3 e4 e5 tw gr hdo

            have BX := Lib.hid (show Br W4 w.heap.size g gs (j + 1) pa pb S0 S1 T u5 from ⟨q1.out, hok.out.1, hok.out.2, ⟨v0, v1, b4.out, u0.out, u1.out, hdis.out⟩, tn4.out, ⟨Nat.le_succ_of_le ln.out.1, Nat.le_succ_of_le ln.out.2.1, Nat.le_succ_of_le ln.out.2.2⟩, hgd.out.1, hgd.out.2, ss.out.1, ss.out.2, tbb.out⟩)
            have GX := G4
            clear hdis u0 u1 tn4 ln ss tbb hok hgd G4 b4 q1

            have hl0 := Lib.hid (by exact len_k (k := 0) (by omega) _ BX.out.lk : Calls Try.prog 9 #[.pointer (some ⟨g, 0, none⟩), .int .i64 0] _ fun e w' => e = .returned (.int .i64 (pa.l.length : Int)) ∧ w' = _)
            have hl1 := Lib.hid (by exact len_k (k := 1) (by omega) _ BX.out.lk : Calls Try.prog 9 #[.pointer (some ⟨g, 0, none⟩), .int .i64 1] _ fun e w' => e = .returned (.int .i64 (pb.l.length : Int)) ∧ w' = _)
            have hq0 : ¬ (16 : Int) < (pa.l.length : Int) := by have := BX.out.oa.l; omega
            have hq1 : ¬ (16 : Int) < (pb.l.length : Int) := by have := BX.out.ob.l; omega
            go_wp2_with fail
            refine hl0.out.mono ?_
            rintro e wx ⟨rfl, hwx⟩
            replace hwx := hwx.symm
            subst hwx
            go_wp2_with fail
            refine hl1.out.mono ?_
            rintro e wx ⟨rfl, hwx⟩
            replace hwx := hwx.symm
            subst hwx
            clear hl0 hl1

            go_wp2
            exact ⟨⟨j + 1, by omega, by go_num, GX, Lib.hid ⟨_, _, _, _, _, BX.out⟩⟩, by simp [intOf]; omega⟩
        · have k2 : (tk != 1) = true := by rw [bne_iff_ne]; omega
          have hd1 : decide (tk < 0) = false := by simp; omega
          have hd2 : decide (3 < tk) = false := by simp; omega
          have hown := Lib.hid (fun n hn => (World.ownsRow.lt tw.out.tn n hn).2)
          go_wp2_with fail
          have Wa := (Gr.refl wr).alloc (.cells #[.int .i64 tk, .int .i64 tw_, .int .i64 ti, .int .i64 tt, .int .u32 (n32 tm), str tb] 31)
          have T8 := tw.out.gr Wa
          obtain ⟨v0, v1, bs, o0, o1, hdis⟩ := T8.sn
          have bx := Blk.new wr 31 #[.int .i64 tk, .int .i64 tw_, .int .i64 ti, .int .i64 tt, .int .u32 (n32 tm), str tb]
          have G8 := gr.out.trans Wa
          have l8 : wr.heap.size < (wr.alloc (.cells #[.int .i64 tk, .int .i64 tw_, .int .i64 ti, .int .i64 tt, .int .u32 (n32 tm), str tb] 31)).heap.size := by simp
          generalize wr.alloc (.cells #[.int .i64 tk, .int .i64 tw_, .int .i64 ti, .int .i64 tt, .int .u32 (n32 tm), str tb] 31) = W8 at T8 bs o0 o1 bx G8 l8 ⊢
          have hdo := do_any T8.lk (T8.oa.ok (by omega)) (T8.ob.ok (by omega)) ⟨tk, tw_, ti, tt, tm, tb⟩ hbj ht1 ht2
          have hok := doP_okj T8.oa T8.ob ⟨tk, tw_, ti, tt, tm, tb⟩ hbj
          have hgd := doP_good ⟨tk, tw_, ti, tt, tm, tb⟩ T8.g0 T8.g1
          have hpo : True := trivial
          generalize doP a b ⟨tk, tw_, ti, tt, tm, tb⟩ = P at hdo hok hgd
          obtain ⟨pa, pb, ps, po⟩ := P
          refine hdo.mono ?_
          rintro e W4 ⟨rfl, q1, q2, q3⟩
          simp only at hpo q1 hok hgd

          have G4 := Lib.hid (show Gr w W4 from Below.trans G8 (Below.mono q3 lgw))
          have x4 := q2.blk bx (by decide) (by decide)
          have b4 := q2.blk bs (by decide) (by decide)
          have u0 := Lib.hid (q2.or_ o0 (by decide) (by decide))
          have u1 := Lib.hid (q2.or_ o1 (by decide) (by decide))
          have tn4 := Lib.hid (q2.or_ T8.tn (by decide) (by decide))
          rw [sent_same S0 _ 0 (.inl h0), sent_same S1 _ 1 (.inl h0), trns_same T _ (by simp only; omega) (by simp only; omega)] at hgd
          have ln := Lib.hid T8.ln
          have ss := Lib.hid (And.intro T8.s0 T8.s1)
          have tbb := Lib.hid T8.tb
          have a0 := x4.cell 0
          have a1 := x4.cell 1
          have a5 := x4.cell 5
          have l4 := x4.lt
          replace x4 := Lib.hid x4
          replace b4 := Lib.hid b4
          replace q1 := Lib.hid q1
          replace hok := Lib.hid hok
          replace hgd := Lib.hid hgd
          replace hdis := Lib.hid hdis
          clear T8 bs o0 o1 bx G8 q2 q3 Wa e0 e1 e2 e3 e4 e5 tw gr hdo

          have BX := Lib.hid (show Br W4 w.heap.size g gs (j + 1) pa pb S0 S1 T u5 from ⟨q1.out, hok.out.1, hok.out.2, ⟨v0, v1, b4.out, u0.out, u1.out, hdis.out⟩, tn4.out, ⟨Nat.le_succ_of_le ln.out.1, Nat.le_succ_of_le ln.out.2.1, Nat.le_succ_of_le ln.out.2.2⟩, hgd.out.1, hgd.out.2, ss.out.1, ss.out.2, tbb.out⟩)
          have GX := G4
          clear hdis u0 u1 tn4 ln ss tbb hok hgd G4 b4 q1

          have hl0 := Lib.hid (by exact len_k (k := 0) (by omega) _ BX.out.lk : Calls Try.prog 9 #[.pointer (some ⟨g, 0, none⟩), .int .i64 0] _ fun e w' => e = .returned (.int .i64 (pa.l.length : Int)) ∧ w' = _)
          have hl1 := Lib.hid (by exact len_k (k := 1) (by omega) _ BX.out.lk : Calls Try.prog 9 #[.pointer (some ⟨g, 0, none⟩), .int .i64 1] _ fun e w' => e = .returned (.int .i64 (pb.l.length : Int)) ∧ w' = _)
          have hq0 : ¬ (16 : Int) < (pa.l.length : Int) := by have := BX.out.oa.l; omega
          have hq1 : ¬ (16 : Int) < (pb.l.length : Int) := by have := BX.out.ob.l; omega
          go_wp2_with fail
          refine hl0.out.mono ?_
          rintro e wx ⟨rfl, hwx⟩
          replace hwx := hwx.symm
          subst hwx
          go_wp2_with fail
          refine hl1.out.mono ?_
          rintro e wx ⟨rfl, hwx⟩
          replace hwx := hwx.symm
          subst hwx
          clear hl0 hl1

          go_wp2
          exact ⟨⟨j + 1, by omega, by go_num, GX, Lib.hid ⟨_, _, _, _, _, BX.out⟩⟩, by simp [intOf]; omega⟩
      · obtain rfl : j = l.length := by omega
        clear tw
        go_wp2_with fail
        refine (awake_any _).mono ?_
        rintro e _ ⟨rfl, gw⟩
        replace gw := Lib.hid gw
        go_wp2
        go_ret
        exact ⟨_, rfl, rfl, gr.out.trans gw.out⟩
  · have hq' : fewB l = false := by simpa using hq
    rw [hq'] at hfe
    clear hq
    go_enter Try.func3, Try.ntmps3
    go_wp2_with fail
    refine hfe.out.mono ?_
    rintro e W1 ⟨rfl, g1⟩
    go_wp2_with fail
    refine (awake_any _).mono ?_
    rintro e W2 ⟨rfl, g2⟩
    go_wp2
    go_ret
    exact ⟨_, rfl, rfl, g1.trans g2⟩
end Ln
end Go.Proofs.Ytpkbdodclkgjpaa

