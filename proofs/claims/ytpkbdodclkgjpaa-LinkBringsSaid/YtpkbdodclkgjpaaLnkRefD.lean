/- The walk of the reference's Do. No condition but sizes. -/
import Derived.Test.YtpkbdodclkgjpaaLnkRef
import Derived.Test.YtpkbdodclkgjpaaLnkDo
import Derived.Test.YtpkbdodclkgjpaaCrcWalkD
import Derived.BigQuiet
set_option linter.unusedVariables false
set_option linter.unusedSimpArgs false
namespace Go.Proofs.Ytpkbdodclkgjpaa
open Go Go.RowKit Go.Shelf W
namespace Ln
abbrev acW (c : Ac) (k : Int) : Array Value := #[.int .i64 c.k, .int .i64 k, .int .i64 c.i, .int .i64 c.t, .int .u32 (n32 c.m), str c.b]
/-- A slice of packets in a block of packets. -/
def TS (w : World) (v : Value) (l : List Pk) : Prop := ∃ A c, v = .slice A l.length c ∧ l.length ≤ c ∧ c ≤ maxLen ∧ (0 < l.length → ∃ g off cs fr, A = some ⟨g, off, none⟩ ∧ w.heap[g]? = some (.cells cs 60 fr) ∧ ∀ j u, (prs l)[j]? = some u → cs[off + j]? = some u)
theorem TS.rs {w : World} {v : Value} {l : List Pk} (h : TS w v l) : RS w v l := by
  obtain ⟨A, c, h1, h2, h3, h4⟩ := h
  refine ⟨A, c, h1, h2, h3, prs_len l, fun hl => ?_⟩
  obtain ⟨g, off, cs, fr, e1, e2, e3⟩ := h4 hl
  refine ⟨_, e1, lt_of_heap e2, fun j u hu => ?_⟩
  have ha : (⟨g, off, none⟩ : Addr).add j = ⟨g, off + j, none⟩ := by unfold Addr.add; split <;> simp_all
  rw [ha]
  simp only [World.cell?, e2]
  exact e3 j u hu
theorem TS.kt {w w' : World} {v : Value} {l : List Pk} (h : TS w v l) (k : KT w w') : TS w' v l := by
  obtain ⟨A, c, h1, h2, h3, h4⟩ := h
  refine ⟨A, c, h1, h2, h3, fun hl => ?_⟩
  obtain ⟨g, off, cs, fr, e1, e2, e3⟩ := h4 hl
  exact ⟨g, off, cs, fr, e1, k.block g _ e2 (fun c f => ⟨fun e => by injection e with _ e _; exact absurd e (by decide), fun e => by injection e with _ e _; exact absurd e (by decide)⟩), e3⟩
theorem TS.gr {w w' : World} {v : Value} {l : List Pk} (h : TS w v l) (k : Gr w w') : TS w' v l := h.kt (KT.of_gr k)
theorem RO.ts {w : World} {base : Nat} {v : Value} {l : List Pk} (h : RO w base v l) : TS w v l := by
  obtain ⟨A, c, he, q1, q2⟩ := OR.shape h
  refine ⟨A, c, he, q1, q2, fun hl => ?_⟩
  rcases h.2 with ⟨_, h0⟩ | ⟨gb, cap, cur, hv, h1, h2, h3, h4, h5, h6⟩
  · omega
  · rw [hv] at he
    injection he with e1 _ _
    refine ⟨gb, 0, cur, (0, 0), e1.symm, h2, fun j u hu => ?_⟩
    rw [← h6, List.getElem?_take] at hu
    split at hu
    · rw [Nat.zero_add]; simpa using hu
    · cases hu
theorem results_cell_row2 {P : Program} {fn : Func} {p u v : Tmp} {ty : TypeId} (h : fn.results = #[.cell p ty, .tmp u, .tmp v]) (tmps : Array Value) (w : World) (g : Nat) (t : TypeId) (cs : Array Value) (fr : Nat × Nat) (d : TypeDesc)
    (hp : tmps.getD p undef = .pointer (some ⟨g, 0, none⟩)) (hg : w.heap[g]? = some (.cells cs t fr))
    (hu : P.underlying ty = some d) (hd : (match d with | .struct _ | .array _ _ => true | _ => false) = true) (hi : (P.info? ty).map (·.size) = some cs.size) :
    (results fn tmps).run P w = .ok (.tuple #[.agg cs, tmps.getD u undef, tmps.getD v undef]) w := by
  have hp' : tmps[p]?.getD undef = .pointer (some ⟨g, 0, none⟩) := by simpa using hp
  simp [results, h, hp', asAddr, run_loadVar_row w g t ty cs fr d hg hu hd hi]
set_option maxRecDepth 100000 in
set_option maxHeartbeats 8000000 in
theorem rdo0_send (A0 A1 : Option Addr) (c0 c1 : Nat) (a b : Way) (c : Ac) (w : World) (h0 : RS w (.slice A0 a.l.length c0) a.l) (ha : Okw a) (hk : c.k = 0) :
    Calls Try.prog 11 #[.agg (stC (.slice A0 a.l.length c0) (.slice A1 b.l.length c1) a b), .agg (acW c 0)] w fun e w' => ∃ A' c', e = .returned (.tuple #[.agg (stC (.slice A' (doY a c).1.l.length c') (.slice A1 b.l.length c1) (doY a c).1 b), str (doY a c).2.1, .bool (doY a c).2.2]) ∧
      RO w' w.heap.size (.slice A' (doY a c).1.l.length c') (doY a c).1.l ∧ Gr w w' := by
  have k1 : (c.k == 0) = true := by simp; omega
  have e2 : doY a c = (putW ⟨a.l, a.s + 1, a.x⟩ (c.b, false), [], true) := by
    unfold doY
    rw [if_pos hk]
  rw [e2]
  have hsw : (a.s : Int) + 1 ≤ 1000000000000 := by have := ha.s; omega
  have hsn : -1000 ≤ (a.s : Int) := by omega
  replace e2 := Lib.hid e2
  replace h0 := Lib.hid h0
  replace hk := Lib.hid hk
  replace ha := Lib.hid ha
  go_enter Try.func11, Try.ntmps11
  have G0 : Gr w (((w.alloc (.cells (#[.slice A0 a.l.length c0, .slice A1 b.l.length c1, .int .i64 ((a.s : Int) + 1), .int .i64 (b.s : Int), .int .i64 (a.x : Int), .int .i64 (b.x : Int)]) 40)).alloc (.cells (acW c 0) 31)).alloc (.cells stZ 40)) := (((Gr.refl w).alloc _).alloc _).alloc _
  have Z0 := Blk.new ((w.alloc (.cells (#[.slice A0 a.l.length c0, .slice A1 b.l.length c1, .int .i64 ((a.s : Int) + 1), .int .i64 (b.s : Int), .int .i64 (a.x : Int), .int .i64 (b.x : Int)]) 40)).alloc (.cells (acW c 0) 31)) 40 stZ
  rw [World.size_alloc, World.size_alloc] at Z0
  have con := rput0 A0 A1 c0 c1 ⟨a.l, a.s + 1, a.x⟩ b (c.b, false) _ (h0.out.gr G0) ha.out.l (by have := ha.out.x; show a.x < _; omega)
  replace con := Lib.hid con
  replace G0 := Lib.hid G0
  replace Z0 := Lib.hid Z0
  go_wp2_with fail
  generalize hW : (((w.alloc (.cells (#[.slice A0 a.l.length c0, .slice A1 b.l.length c1, .int .i64 ((a.s : Int) + 1), .int .i64 (b.s : Int), .int .i64 (a.x : Int), .int .i64 (b.x : Int)]) 40)).alloc (.cells (acW c 0) 31)).alloc (.cells stZ 40)) = W at con G0 Z0 ⊢
  refine (by exact con.out : Calls Try.prog 21 #[.agg (#[.slice A0 a.l.length c0, .slice A1 b.l.length c1, .int .i64 ((a.s : Int) + 1), .int .i64 (b.s : Int), .int .i64 (a.x : Int), .int .i64 (b.x : Int)]), .int .i64 0, .agg #[str c.b, .bool false]] W _).mono ?_
  rintro e w5 ⟨A5, c5, rfl, r5, g5⟩
  have s0 : W.heap.size = w.heap.size + 1 + 1 + 1 := by rw [← hW]; simp
  replace s0 := Lib.hid s0
  clear con hW
  have Z5 := Lib.hid (blk_more Z0.out g5)
  have z5 := blk_more Z0.out g5
  have l5 := Lib.hid z5.lt
  replace r5 := Lib.hid r5
  replace g5 := Lib.hid g5
  clear z5
  go_wp2_with (first
    | ((with_reducible refine wpList_isStore 40 (.tmp 4) (.tmp 37) rfl ?_); refine wpList_store_blk rfl 40 (.tmp 4) (.tmp 37) rfl (w.heap.size + 1 + 1) _ rfl rfl 40 stZ Z5.out (stInfo _ _ _ _ _ _) rfl (by simp [Value.oneCell']) ?_; intro w10 n10 k10 z10; replace n10 := Lib.hid n10; replace k10 := Lib.hid k10; replace z10 := Lib.hid z10))
  refine bodyPost_ret (results_cell_row2 Try.results11 _ _ (w.heap.size + 1 + 1) 40 _ (0, 0) _ rfl n10.out Try.underlying40 rfl (stInfo _ _ _ _ _ _)) rfl ?_
  exact ⟨A5, c5, rfl, (r5.out.kb k10.out (by have := s0.out; omega)).low (by have := s0.out; omega), keep_at (G0.out.trans g5.out) k10.out (by omega) (Nat.le_of_lt l5.out)⟩
set_option maxRecDepth 100000 in
set_option maxHeartbeats 8000000 in
theorem rdo1_send (A0 A1 : Option Addr) (c0 c1 : Nat) (a b : Way) (c : Ac) (w : World) (h0 : RS w (.slice A0 a.l.length c0) a.l) (ha : Okw a) (hk : c.k = 0) :
    Calls Try.prog 11 #[.agg (stC (.slice A1 b.l.length c1) (.slice A0 a.l.length c0) b a), .agg (acW c 1)] w fun e w' => ∃ A' c', e = .returned (.tuple #[.agg (stC (.slice A1 b.l.length c1) (.slice A' (doY a c).1.l.length c') b (doY a c).1), str (doY a c).2.1, .bool (doY a c).2.2]) ∧
      RO w' w.heap.size (.slice A' (doY a c).1.l.length c') (doY a c).1.l ∧ Gr w w' := by
  have k1 : (c.k == 0) = true := by simp; omega
  have e2 : doY a c = (putW ⟨a.l, a.s + 1, a.x⟩ (c.b, false), [], true) := by
    unfold doY
    rw [if_pos hk]
  rw [e2]
  have hsw : (a.s : Int) + 1 ≤ 1000000000000 := by have := ha.s; omega
  have hsn : -1000 ≤ (a.s : Int) := by omega
  replace e2 := Lib.hid e2
  replace h0 := Lib.hid h0
  replace hk := Lib.hid hk
  replace ha := Lib.hid ha
  go_enter Try.func11, Try.ntmps11
  have G0 : Gr w (((w.alloc (.cells (#[.slice A1 b.l.length c1, .slice A0 a.l.length c0, .int .i64 (b.s : Int), .int .i64 ((a.s : Int) + 1), .int .i64 (b.x : Int), .int .i64 (a.x : Int)]) 40)).alloc (.cells (acW c 1) 31)).alloc (.cells stZ 40)) := (((Gr.refl w).alloc _).alloc _).alloc _
  have Z0 := Blk.new ((w.alloc (.cells (#[.slice A1 b.l.length c1, .slice A0 a.l.length c0, .int .i64 (b.s : Int), .int .i64 ((a.s : Int) + 1), .int .i64 (b.x : Int), .int .i64 (a.x : Int)]) 40)).alloc (.cells (acW c 1) 31)) 40 stZ
  rw [World.size_alloc, World.size_alloc] at Z0
  have con := rput1 A0 A1 c0 c1 ⟨a.l, a.s + 1, a.x⟩ b (c.b, false) _ (h0.out.gr G0) ha.out.l (by have := ha.out.x; show a.x < _; omega)
  replace con := Lib.hid con
  replace G0 := Lib.hid G0
  replace Z0 := Lib.hid Z0
  go_wp2_with fail
  generalize hW : (((w.alloc (.cells (#[.slice A1 b.l.length c1, .slice A0 a.l.length c0, .int .i64 (b.s : Int), .int .i64 ((a.s : Int) + 1), .int .i64 (b.x : Int), .int .i64 (a.x : Int)]) 40)).alloc (.cells (acW c 1) 31)).alloc (.cells stZ 40)) = W at con G0 Z0 ⊢
  refine (by exact con.out : Calls Try.prog 21 #[.agg (#[.slice A1 b.l.length c1, .slice A0 a.l.length c0, .int .i64 (b.s : Int), .int .i64 ((a.s : Int) + 1), .int .i64 (b.x : Int), .int .i64 (a.x : Int)]), .int .i64 1, .agg #[str c.b, .bool false]] W _).mono ?_
  rintro e w5 ⟨A5, c5, rfl, r5, g5⟩
  have s0 : W.heap.size = w.heap.size + 1 + 1 + 1 := by rw [← hW]; simp
  replace s0 := Lib.hid s0
  clear con hW
  have Z5 := Lib.hid (blk_more Z0.out g5)
  have z5 := blk_more Z0.out g5
  have l5 := Lib.hid z5.lt
  replace r5 := Lib.hid r5
  replace g5 := Lib.hid g5
  clear z5
  go_wp2_with (first
    | ((with_reducible refine wpList_isStore 40 (.tmp 4) (.tmp 37) rfl ?_); refine wpList_store_blk rfl 40 (.tmp 4) (.tmp 37) rfl (w.heap.size + 1 + 1) _ rfl rfl 40 stZ Z5.out (stInfo _ _ _ _ _ _) rfl (by simp [Value.oneCell']) ?_; intro w10 n10 k10 z10; replace n10 := Lib.hid n10; replace k10 := Lib.hid k10; replace z10 := Lib.hid z10))
  refine bodyPost_ret (results_cell_row2 Try.results11 _ _ (w.heap.size + 1 + 1) 40 _ (0, 0) _ rfl n10.out Try.underlying40 rfl (stInfo _ _ _ _ _ _)) rfl ?_
  exact ⟨A5, c5, rfl, (r5.out.kb k10.out (by have := s0.out; omega)).low (by have := s0.out; omega), keep_at (G0.out.trans g5.out) k10.out (by omega) (Nat.le_of_lt l5.out)⟩
theorem prs_pcs (l : List Pk) : prs l = pcs (l.map fun p => (str p.1, .bool p.2)) := by
  induction l with
  | nil => rfl
  | cons p l ih =>
    have e1 : prs (p :: l) = pr p ++ prs l := rfl
    rw [e1, ih]
    simp [pcs, pr]
theorem prs_set (l : List Pk) (i : Nat) (q : Pk) (h : i < l.length) : prs (l.set i q) = ((prs l).set (i * 2) (str q.1)).set (i * 2 + 1) (.bool q.2) := by
  rw [prs_pcs, prs_pcs, List.map_set, pcs_set _ _ _ (by simpa using h)]
theorem prs_at (l : List Pk) (i : Nat) (h : i < l.length) : (prs l)[i * 2]? = some (str l[i].1) ∧ (prs l)[i * 2 + 1]? = some (.bool l[i].2) := by
  have := pcs_at (l.map fun p => ((str p.1 : Value), Value.bool p.2)) i (by simpa using h)
  rw [prs_pcs]
  simpa using this
theorem own_blk {w : World} {base n c : Nat} {A : Option Addr} {xs : List Value} (h : OR 60 2 w base (.slice A n c) n xs) (hn : 0 < n) : ∃ gb cur, A = some ⟨gb, 0, none⟩ ∧ base ≤ gb ∧ Blk w gb 60 cur ∧ n ≤ c ∧ c ≤ maxLen ∧ cur.size = c * 2 ∧ cur.toList.take (n * 2) = xs := by
  rcases h.2 with ⟨_, h0⟩ | ⟨gb, cap, cur, hv, h1, h2, h3, h4, h5, h6⟩
  · omega
  · injection hv with e1 _ e3
    subst e3
    exact ⟨gb, cur, e1, h1, h2, h3, h4, h5, h6⟩
theorem own_at {cur : Array Value} {l : List Pk} {i n : Nat} {h : i < l.length} {p : Pk} (htk : cur.toList.take n = prs l) (h1 : (prs l)[i * 2]? = some (str l[i].1)) (hp : p = l[i]) (hn : i * 2 < n) : cur[i * 2]? = some (str p.1) := by
  have e : (cur.toList.take n)[i * 2]? = cur[i * 2]? := by rw [List.getElem?_take, if_pos hn, Array.getElem?_toList]
  rw [← e, htk, h1, hp]
theorem own_at1 {cur : Array Value} {l : List Pk} {i n : Nat} {h : i < l.length} {p : Pk} (htk : cur.toList.take n = prs l) (h1 : (prs l)[i * 2 + 1]? = some (.bool l[i].2)) (hp : p = l[i]) (hn : i * 2 + 1 < n) : cur[i * 2 + 1]? = some (.bool p.2) := by
  have e : (cur.toList.take n)[i * 2 + 1]? = cur[i * 2 + 1]? := by rw [List.getElem?_take, if_pos hn, Array.getElem?_toList]
  rw [← e, htk, h1, hp]
theorem ro_set {X : World} {gb c i base : Nat} {cur : Array Value} {l : List Pk} {q : Pk} (b : Blk X gb 60 ((cur.setIfInBounds (i * 2) (str q.1)).setIfInBounds (i * 2 + 1) (.bool q.2))) (hb : base ≤ gb) (h3 : l.length ≤ c) (h4 : c ≤ maxLen) (h5 : cur.size = c * 2) (h6 : cur.toList.take (l.length * 2) = prs l) (hi : i < l.length) :
    RO X base (.slice (some ⟨gb, 0, none⟩) l.length c) (l.set i q) := by
  have hl : (l.set i q).length = l.length := List.length_set
  unfold RO
  rw [hl]
  refine ⟨by rw [prs_len, hl], .inr ⟨gb, c, _, rfl, hb, b, h3, h4, by simpa using h5, ?_⟩⟩
  rw [prs_set l i q hi, ← h6, Array.toList_setIfInBounds, Array.toList_setIfInBounds, List.take_set, List.take_set]
theorem rpInfo (a b : Value) : (Try.prog.info? 60).map (·.size) = some (#[a, b] : Array Value).size := by kernel_rfl
theorem kb_drewR {g : Nat} {w w' : World} (h : Kb g w w') : Kb g w w'.drew := ⟨h.os, h.tape, h.output, h.size, h.block⟩
theorem step_load_row {P : Program} {ops : Array Oper} {o : Oper} {a : Act} {w : World} {K : Act → World → Prop} {Q : Exit → Act → World → Prop} {E' : Prop} (hgd : o.guard = none) (ty : TypeId) (x : Operand) (ho : o.op = .load ty x)
    (g : Nat) (hx : a.eval x = .pointer (some ⟨g, 0, none⟩)) (t : TypeId) (cs : Array Value) (fr : Nat × Nat) (d : TypeDesc) (hg : w.heap[g]? = some (.cells cs t fr))
    (hu : P.underlying ty = some d) (hd : (match d with | .struct _ | .array _ _ => true | _ => false) = true) (hi : (P.info? ty).map (·.size) = some cs.size) (h : K (a.put o.dst (.agg cs)) w) :
    if Region.wanted o (yielded ops a.tmps) = true then Oper.wp P o a w K Q else E' := by
  rw [if_pos (by simp [Region.wanted, hgd])]
  exact wp_load_row ty x ho g hx t cs fr d hg hu hd hi h
theorem step_store_blk {P : Program} {ops : Array Oper} {o : Oper} {a : Act} {w : World} {K : Act → World → Prop} {Q : Exit → Act → World → Prop} {E' : Prop} (hgd : o.guard = none) (ty : TypeId) (x y : Operand) (ho : o.op = .store ty x y)
    (g : Nat) (cells : Array Value) (hx : a.eval x = .pointer (some ⟨g, 0, none⟩)) (hy : a.eval y = .agg cells)
    (t : TypeId) (old : Array Value) (hg : Blk w g t old) (hi : (P.info? ty).map (·.size) = some cells.size)
    (hold : old.size = cells.size) (h1 : cells.all (·.oneCell') = true)
    (h : ∀ w', Blk w' g t cells → Kb g w w' → w'.heap.size = w.heap.size → K (a.put o.dst undef) w') : if Region.wanted o (yielded ops a.tmps) = true then Oper.wp P o a w K Q else E' := by
  rw [if_pos (by simp [Region.wanted, hgd])]
  exact wp_store_row ty x y ho g cells hx hy t old hg hi hold h1 (h _ (setRow_heap w g old cells t (0, 0) hg)
    ⟨rfl, rfl, rfl, by simp, fun k _ hk => setRow_other w g k cells (fun e => hk (by rw [e]))⟩ (by simp))
theorem rowP_at {w : World} {A : Option Addr} {l : List Pk} (h : Reads w w.heap.size 2 A l.length (prs l)) {i : Nat} (hi : i < l.length) : ∃ ad, A = some ad ∧ ad.block < w.heap.size ∧
    w.cell? (ad.add (i * 2)) = some (str l[i].1) ∧ w.cell? ⟨(ad.add (i * 2)).block, (ad.add (i * 2)).off + 1, none⟩ = some (.bool l[i].2) := by
  obtain ⟨ad, h1, h2, h3, h4⟩ := Reads.row (f := pr) (fun _ => rfl) rfl h hi (by omega)
  exact ⟨ad, h1, h2, h3 _ rfl, h4 1 _ (by omega) (by omega) rfl⟩
theorem reads_pre {w : World} {A : Option Addr} {l : List Pk} {i B : Nat} (h : Reads w B 2 A l.length (prs l)) (hi : i ≤ l.length) : Reads w B 2 A i (prs (l.take i)) := by
  have e : prs l = prs (l.take i) ++ prs (l.drop i) := by rw [← prs_append, List.take_append_drop]
  have hl : (prs (l.take i)).length = i * 2 := by rw [prs_len, List.length_take, Nat.min_eq_left hi]
  refine ⟨hl, fun h0 => ?_⟩
  obtain ⟨ad, h1, h2, h3⟩ := h.2 (by omega)
  refine ⟨ad, h1, h2, fun j u hu => h3 j u ?_⟩
  rw [e, List.getElem?_append_left (by have := (List.getElem?_eq_some_iff.1 hu).1; omega), hu]
theorem reads_post {w : World} {ad : Addr} {l : List Pk} {i B : Nat} (h : Reads w B 2 (some ad) l.length (prs l)) (hi : i < l.length) : Reads w B 2 (some (ad.add ((i + 1) * 2))) (l.length - (i + 1)) (prs (l.drop (i + 1))) := by
  have e : prs l = prs (l.take (i + 1)) ++ prs (l.drop (i + 1)) := by rw [← prs_append, List.take_append_drop]
  have hl : (prs (l.take (i + 1))).length = (i + 1) * 2 := by rw [prs_len, List.length_take, Nat.min_eq_left hi]
  refine ⟨by rw [prs_len, List.length_drop], fun h0 => ?_⟩
  obtain ⟨ad', h1, h2, h3⟩ := h.2 (by omega)
  cases h1
  refine ⟨_, rfl, by rw [block_of_add]; exact h2, fun j u hu => ?_⟩
  rw [Addr.add_add]
  refine h3 _ u ?_
  rw [e, List.getElem?_append_right (by omega), hl, Nat.add_sub_cancel_left, hu]
/-- Where a slice begins that leaves out m rows ahead. -/
def offA (ad : Addr) (c m : Nat) : Option Addr := if c = m then some ad else some (ad.add (m * 2))
theorem reads_off {w : World} {ad : Addr} {l : List Pk} {i B c : Nat} (h : Reads w B 2 (some ad) l.length (prs l)) (hi : i < l.length) (hc : l.length ≤ c) : Reads w B 2 (offA ad c (i + 1)) (l.length - (i + 1)) (prs (l.drop (i + 1))) := by
  unfold offA
  split
  · have e : l.length - (i + 1) = 0 := by omega
    refine ⟨by rw [prs_len, List.length_drop], fun h0 => ?_⟩
    omega
  · exact reads_post h hi
theorem run_slice_off {P : Program} {w : World} {T E : TypeId} (hT : P.underlying T = some (.slice E)) (hE : (P.info? E).map (·.size) = some 2) (ad : Addr) (n c m : Nat) (k : IntKind) (hm : m ≤ n) (hc : n ≤ c) :
    (Instr.sliceAt T (.slice (some ad) n c) (some (.int k (m : Int))) none none).run P w = .ok (.slice (offA ad c m) (n - m) (c - m)) w := by
  obtain ⟨i0, h0, h1⟩ := Option.map_eq_some_iff.1 hE
  have h2 : (m : Int) ≤ (n : Int) := by omega
  unfold offA
  have e : (if c = m then some ad else some (ad.add (m * 2))) = (if c = m then some ad else (some ad).map (·.add (m * 2))) := rfl
  rw [e]
  simp [Instr.sliceAt, Instr.slice, Instr.sliceBounds, Instr.sliceBound, run_underlying hT, sizeOf, typeInfo, h0, h1, asIntOf, hm]
theorem run_slice_hiR {P : Program} {w : World} {T E : TypeId} (hT : P.underlying T = some (.slice E)) (hE : (P.info? E).map (·.size) = some 2) (ad : Addr) (n c m : Nat) (k : IntKind) (hm : m ≤ c) :
    (Instr.sliceAt T (.slice (some ad) n c) none (some (.int k (m : Int))) none).run P w = .ok (.slice (some ad) m c) w := by
  obtain ⟨i0, h0, h1⟩ := Option.map_eq_some_iff.1 hE
  have h2 : (m : Int) ≤ (c : Int) := by omega
  simp [Instr.sliceAt, Instr.slice, Instr.sliceBounds, Instr.sliceBound, run_underlying hT, sizeOf, typeInfo, h0, h1, asIntOf, hm, Addr.add]
theorem rpSize : (Try.prog.info? 60).map (·.size) = some 2 := by kernel_rfl
theorem GW.appER {P : Program} {ops : Array Oper} {Q : Exit → Act → World → Prop} {a₀ : Act} {w₀ : World} {Φ : Nat → Ass} {i : Nat} {o : Oper} {s x : Operand} {T E : TypeId} {size bytes base n c : Nat} {A : Option Addr} {xs : List Value} (ho : ops[i]? = some o) (hgd : GuardOK ops Φ i o) (hop : o.op = .call { callee := .builtin .append, args := #[s, x], argTypes := #[T, T] })
    (ht : P.underlying T = some (.slice E)) (hE : RowType P E size bytes) (hx : Knows ops Φ a₀ w₀ i s (isOE E size base)) (hy : Knows ops Φ a₀ w₀ i x (eqv (.slice A n c))) (hrd : Reads w₀ w₀.heap.size size A n xs) (h1 : ∀ u ∈ xs, u.oneCell' = true) (hlen : n ≤ maxLen) (hby : n * bytes ≤ 140737488355328) (hb : base ≤ w₀.heap.size)
    (hrest : GW P ops Q a₀ w₀ (Go.Proofs.Ytpkbdodclkgjpaa.setA Φ i (isOR E size base n xs)) (i + 1)) : GW P ops Q a₀ w₀ Φ i :=
  GW.bi (isOR E size base n xs) ho hgd hx hy (isOR_lasts _ _ _ _ _) (fun a w hg ⟨g, hv, hog⟩ hu => by
    have hu' : a.eval x = .slice A n c := hu
    obtain ⟨A', c', w', hrun, h2, h3⟩ := run_append_empty (P := P) T o.type ht hE hog w₀.heap.size A n c xs (Reads.below hrd hg) h1 hlen hby (Nat.le_trans hb hg.size)
    refine .val (v := .slice A' n c') (w' := w') ?_ h3 ⟨A', c', rfl, h2⟩
    unfold execOp
    simp only [hop, resolve, invoke, builtin, Sem.run_bind, Sem.run_pure, Result.andThen_ok, List.map_toArray, List.map_cons, List.map_nil, hv, hu', hrun]) hrest
theorem prs_erase (l : List Pk) (i : Nat) : prs (l.eraseIdx i) = prs (l.take i) ++ prs (l.drop (i + 1)) := by
  rw [List.eraseIdx_eq_take_drop_succ, prs_append]
set_option maxRecDepth 100000 in
set_option maxHeartbeats 8000000 in
theorem rdo0_at (A0 A1 : Option Addr) (c0 c1 : Nat) (a b : Way) (c : Ac) (ht1 : -9223372036854775808 ≤ c.t) (ht2 : c.t ≤ 9223372036854775807) (w : World) (h0 : TS w (.slice A0 a.l.length c0) a.l) (ha : Okw a) (hk : c.k ≠ 0) (i : Nat) (hci : c.i = (i : Int)) (hi : i < a.l.length) :
    Calls Try.prog 11 #[.agg (stC (.slice A0 a.l.length c0) (.slice A1 b.l.length c1) a b), .agg (acW c 0)] w fun e w' => ∃ A' c', e = .returned (.tuple #[.agg (stC (.slice A' (doY a c).1.l.length c') (.slice A1 b.l.length c1) (doY a c).1 b), str (doY a c).2.1, .bool (doY a c).2.2]) ∧
      TS w' (.slice A' (doY a c).1.l.length c') (doY a c).1.l ∧ Gr w w' := by
  have k1 : (c.k == 0) = false := by simp; omega
  have hi0 : (0 : Int) ≤ (i : Int) := by omega
  have hi1 : (i : Int) < (a.l.length : Int) := by omega
  have hd1 : decide ((i : Int) < 0) = false := by simp
  have hd2 : decide ((a.l.length : Int) ≤ (i : Int)) = false := by simp; omega
  have hl16 := ha.l
  have hts := Lib.hid h0
  obtain ⟨_, _, hv, hc1, hc2, hrd⟩ := h0.rs
  injection hv with hv1 hv2 hv3
  subst hv1
  subst hv3
  obtain ⟨ad, rfl, hbl, e0, e1⟩ := rowP_at hrd hi
  unfold acW
  rw [hci]
  obtain ⟨p, hp⟩ : ∃ p, p = a.l[i] := ⟨_, rfl⟩
  rw [← hp] at e0 e1
  obtain ⟨Y, hY⟩ : ∃ Y, Y = doY a c := ⟨_, rfl⟩
  rw [← hY]
  replace hp := Lib.hid hp
  replace hY := Lib.hid hY
  replace hci := Lib.hid hci
  replace hrd := Lib.hid hrd
  replace ha := Lib.hid ha
  go_enter Try.func11, Try.ntmps11
  go_wp2
  have B0 := ((Blk.new w 40 (stC (.slice (some ad) a.l.length c0) (.slice A1 b.l.length c1) a b)).alloc (.cells #[.int .i64 c.k, .int .i64 0, .int .i64 (i : Int), .int .i64 c.t, .int .u32 (n32 c.m), str c.b] 31)).alloc (.cells stZ 40)
  have P0 := (Blk.new (w.alloc (.cells (stC (.slice (some ad) a.l.length c0) (.slice A1 b.l.length c1) a b) 40)) 31 #[.int .i64 c.k, .int .i64 0, .int .i64 (i : Int), .int .i64 c.t, .int .u32 (n32 c.m), str c.b]).alloc (.cells stZ 40)
  have Z0 := Blk.new ((w.alloc (.cells (stC (.slice (some ad) a.l.length c0) (.slice A1 b.l.length c1) a b) 40)).alloc (.cells #[.int .i64 c.k, .int .i64 0, .int .i64 (i : Int), .int .i64 c.t, .int .u32 (n32 c.m), str c.b] 31)) 40 stZ
  have G0 := (((Gr.refl w).alloc (.cells (stC (.slice (some ad) a.l.length c0) (.slice A1 b.l.length c1) a b) 40)).alloc (.cells #[.int .i64 c.k, .int .i64 0, .int .i64 (i : Int), .int .i64 c.t, .int .u32 (n32 c.m), str c.b] 31)).alloc (.cells stZ 40)
  have s0 : (((w.alloc (.cells (stC (.slice (some ad) a.l.length c0) (.slice A1 b.l.length c1) a b) 40)).alloc (.cells #[.int .i64 c.k, .int .i64 0, .int .i64 (i : Int), .int .i64 c.t, .int .u32 (n32 c.m), str c.b] 31)).alloc (.cells stZ 40)).heap.size = w.heap.size + 1 + 1 + 1 := by simp
  rw [World.size_alloc] at P0 Z0
  rw [World.size_alloc] at Z0
  replace B0 := Lib.hid B0
  replace P0 := Lib.hid P0
  replace Z0 := Lib.hid Z0
  replace G0 := Lib.hid G0
  replace s0 := Lib.hid s0
  generalize hW : (((w.alloc (.cells (stC (.slice (some ad) a.l.length c0) (.slice A1 b.l.length c1) a b) 40)).alloc (.cells #[.int .i64 c.k, .int .i64 0, .int .i64 (i : Int), .int .i64 c.t, .int .u32 (n32 c.m), str c.b] 31)).alloc (.cells stZ 40)) = W at B0 P0 Z0 G0 s0 ⊢
  clear hW
  have l0 := B0.out.lt
  have l1 := P0.out.lt
  have cB := B0.out.cell 0
  have a0 := P0.out.cell 0
  have a1 := P0.out.cell 2
  replace e0 := (G0.out.cell (p := ad.add (i * 2)) (by rw [block_of_add]; exact hbl)).trans e0
  replace e1 := (G0.out.cell (p := ⟨(ad.add (i * 2)).block, (ad.add (i * 2)).off + 1, none⟩) (by show (ad.add (i * 2)).block < _; rw [block_of_add]; exact hbl)).trans e1
  have lb : (ad.add (i * 2)).block < W.heap.size := by rw [block_of_add]; exact Nat.lt_of_lt_of_le hbl G0.out.size
  go_quiet (fail)
  generalize hV : W.drewN _ = V
  have gV : Gr W V := by rw [← hV]; exact below_drewN (Below.refl _ _) _
  have sV : V.heap.size = w.heap.size + 1 + 1 + 1 := by rw [← hV]; exact s0.out
  clear hV
  replace B0 := blk_more B0.out gV
  replace P0 := blk_more P0.out gV
  replace Z0 := Lib.hid (blk_more Z0.out gV)
  replace G0 := Lib.hid (G0.out.trans gV)
  replace e0 := (gV.cell (p := ad.add (i * 2)) lb).trans e0
  replace e1 := (gV.cell (p := ⟨(ad.add (i * 2)).block, (ad.add (i * 2)).off + 1, none⟩) lb).trans e1
  replace lb : (ad.add (i * 2)).block < V.heap.size := Nat.lt_of_lt_of_le lb gV.size
  replace l0 := B0.lt
  replace l1 := P0.lt
  replace cB := B0.cell 0
  replace a0 := P0.cell 0
  replace a1 := P0.cell 2
  replace B0 := Lib.hid B0
  replace P0 := Lib.hid P0
  clear s0 gV W
  obtain ⟨W, rfl⟩ : ∃ W, W = V := ⟨_, rfl⟩
  replace s0 := Lib.hid sV
  clear sV
  have x1 := (((Gr.refl W).alloc (.cells #[.string ⟨#[]⟩, .bool false] 60)).cell (p := ⟨w.heap.size + 1, 2, none⟩) l1).trans a1
  have xB := (((Gr.refl W).alloc (.cells #[.string ⟨#[]⟩, .bool false] 60)).cell (p := ⟨w.heap.size, 0, none⟩) l0).trans cB
  have xe0 := (((Gr.refl W).alloc (.cells #[.string ⟨#[]⟩, .bool false] 60)).cell (p := ad.add (i * 2)) lb).trans e0
  have xe1 := (((Gr.refl W).alloc (.cells #[.string ⟨#[]⟩, .bool false] 60)).cell (p := ⟨(ad.add (i * 2)).block, (ad.add (i * 2)).off + 1, none⟩) lb).trans e1
  have N0 := Blk.new W 60 #[.string ⟨#[]⟩, .bool false]
  have n0 := N0.cell 0
  have n1 := N0.cell 1
  have m0 := N0.frozen 0
  have m1 := N0.frozen 1
  have n1' := (N0.set_ 0 (str p.1)).cell 1
  have m1' := (N0.set_ 0 (str p.1)).frozen 1
  clear N0
  go_wp2
  go_region
  have gU : Gr W (W.alloc (.cells #[str p.1, .bool p.2] 60)).drew := ((Gr.refl W).alloc _).drew
  have NU : Blk (W.alloc (.cells #[str p.1, .bool p.2] 60)).drew W.heap.size 60 #[str p.1, .bool p.2] := Blk.new W _ _
  have sU : (W.alloc (.cells #[str p.1, .bool p.2] 60)).drew.heap.size = W.heap.size + 1 := by show (W.alloc _).heap.size = _; simp
  generalize hU : (W.alloc (.cells #[str p.1, .bool p.2] 60)).drew = U at gU NU sU ⊢
  clear hU n0 n1 m0 m1 n1' m1' x1 xB xe0 xe1 e0 e1
  replace B0 := blk_more B0.out gU
  replace P0 := blk_more P0.out gU
  replace Z0 := Lib.hid (blk_more Z0.out gU)
  replace G0 := G0.out.trans gU
  rw [s0.out] at NU sU
  rw [s0.out]
  have lw : w.heap.size ≤ U.heap.size := G0.size
  replace l0 := B0.lt
  replace l1 := P0.lt
  have l3 := NU.lt
  replace cB := B0.cell 0
  replace a0 := P0.cell 0
  replace a1 := P0.cell 2
  have rU : Reads U U.heap.size 2 (some ad) a.l.length (prs a.l) := Reads.more (Reads.below hrd.out G0) lw
  have rA := Lib.hid (reads_pre rU (Nat.le_of_lt hi))
  have qA := Lib.hid (reads_off rU hi hc1)
  replace G0 := Lib.hid G0
  replace B0 := Lib.hid B0
  replace P0 := Lib.hid P0
  replace NU := Lib.hid NU
  replace sU := Lib.hid sU
  have hp4 : (IntKind.i64).wrap ((i : Int) + 1) = (i : Int) + 1 := by rw [IntKind.wrap_i64]; omega
  have hpc : i ≤ c0 := by omega
  have hpd : a.l.length - (i + 1) ≤ 16 := by omega
  clear lb hd1 hd2 rU gU s0
  clear W
  go_wp2
  refine region_grow rfl (by kernel_rfl) ?_
  refine GW.empty (E := 60) (size := 2) (base := U.heap.size) (Nat.le_refl _) rfl trivial rfl (fun w => by kernel_rfl) ?_
  refine GW.mv rfl trivial (.inl rfl) (kn0 (t := 7) (c := .int .i64 0) (by kernel_rfl) rfl) (eqv_lasts _) ?_
  refine GW.p1 (.pointer (some ⟨w.heap.size, 0, none⟩)) rfl trivial (kn0 (t := 2) (c := .pointer (some ⟨w.heap.size, 0, none⟩)) (by kernel_rfl) rfl) (fun ρ w' hρ hg => by simp [execOp, hρ, go_sem]) ?_
  refine GW.p2 (.pointer (some ⟨w.heap.size, 0, none⟩)) rfl trivial (kn (t := 62) (j := 2) (by kernel_rfl)) (kn (t := 61) (j := 1) (by kernel_rfl)) (fun ρ w' h1 h2 hg => by simp [execOp, h1, h2, go_sem]) ?_
  refine GW.p1 (.slice (some ad) a.l.length c0) rfl trivial (kn (t := 63) (j := 3) (by kernel_rfl)) (fun ρ w' hρ hg => by simp [execOp, hρ, go_sem, (hg.cell (p := ⟨w.heap.size, 0, none⟩) B0.out.lt).trans (B0.out.cell 0)]) ?_
  refine GW.p1 (.pointer (some ⟨w.heap.size + 1, 2, none⟩)) rfl trivial (kn0 (t := 3) (c := .pointer (some ⟨w.heap.size + 1, 0, none⟩)) (by kernel_rfl) rfl) (fun ρ w' hρ hg => by simp [execOp, hρ, go_sem]) ?_
  refine GW.p1 (.int .i64 (i : Int)) rfl trivial (kn (t := 65) (j := 5) (by kernel_rfl)) (fun ρ w' hρ hg => by simp [execOp, hρ, go_sem, (hg.cell (p := ⟨w.heap.size + 1, 2, none⟩) P0.out.lt).trans (P0.out.cell 2)]) ?_
  refine GW.p2 (.slice (some ad) i c0) rfl trivial (kn (t := 64) (j := 4) (by kernel_rfl)) (kn (t := 66) (j := 6) (by kernel_rfl)) (fun ρ w' h1 h2 hg => by show ((Instr.sliceAt 36 (ρ (.tmp 64)) none (some (ρ (.tmp 66))) none >>= fun v => pure (Next.value v)) : Sem Next).run Try.prog w' = _; rw [h1, h2, Sem.run_bind, run_slice_hiR Try.underlying36 rpSize ad _ _ i _ hpc]; simp) ?_
  refine GW.appER (base := U.heap.size) (xs := prs (a.l.take i)) rfl trivial rfl Try.underlying36 rpRow (kn (t := 60) (j := 0) (by kernel_rfl)) (kn (t := 67) (j := 7) (by kernel_rfl)) rA.out (prs_one_cell _) (by unfold maxLen; omega) (by omega) (Nat.le_refl _) ?_
  refine GW.mv rfl trivial (.inl rfl) (kn0 (t := 7) (c := .int .i64 0) (by kernel_rfl) rfl) (eqv_lasts _) ?_
  refine GW.p1 (.pointer (some ⟨w.heap.size, 0, none⟩)) rfl trivial (kn0 (t := 2) (c := .pointer (some ⟨w.heap.size, 0, none⟩)) (by kernel_rfl) rfl) (fun ρ w' hρ hg => by simp [execOp, hρ, go_sem]) ?_
  refine GW.p2 (.pointer (some ⟨w.heap.size, 0, none⟩)) rfl trivial (kn (t := 70) (j := 10) (by kernel_rfl)) (kn (t := 69) (j := 9) (by kernel_rfl)) (fun ρ w' h1 h2 hg => by simp [execOp, h1, h2, go_sem]) ?_
  refine GW.p1 (.slice (some ad) a.l.length c0) rfl trivial (kn (t := 71) (j := 11) (by kernel_rfl)) (fun ρ w' hρ hg => by simp [execOp, hρ, go_sem, (hg.cell (p := ⟨w.heap.size, 0, none⟩) B0.out.lt).trans (B0.out.cell 0)]) ?_
  refine GW.p1 (.pointer (some ⟨w.heap.size + 1, 2, none⟩)) rfl trivial (kn0 (t := 3) (c := .pointer (some ⟨w.heap.size + 1, 0, none⟩)) (by kernel_rfl) rfl) (fun ρ w' hρ hg => by simp [execOp, hρ, go_sem]) ?_
  refine GW.p1 (.int .i64 (i : Int)) rfl trivial (kn (t := 73) (j := 13) (by kernel_rfl)) (fun ρ w' hρ hg => by simp [execOp, hρ, go_sem, (hg.cell (p := ⟨w.heap.size + 1, 2, none⟩) P0.out.lt).trans (P0.out.cell 2)]) ?_
  refine GW.bin (.int .i64 ((i + 1 : Nat) : Int)) rfl trivial rfl (kn (t := 74) (j := 14) (by kernel_rfl)) knc (fun w' => by simp [go_sem, hp4]) ?_
  refine GW.p2 (.slice (offA ad c0 (i + 1)) (a.l.length - (i + 1)) (c0 - (i + 1))) rfl trivial (kn (t := 72) (j := 12) (by kernel_rfl)) (kn (t := 75) (j := 15) (by kernel_rfl)) (fun ρ w' h1 h2 hg => by show ((Instr.sliceAt 36 (ρ (.tmp 72)) (some (ρ (.tmp 75))) none none >>= fun v => pure (Next.value v)) : Sem Next).run Try.prog w' = _; rw [h1, h2, Sem.run_bind, run_slice_off Try.underlying36 rpSize ad _ _ (i + 1) _ hi hc1]; simp) ?_
  refine GW.tailT (m := 17) (by simp) (by kernel_rfl) (by kernel_rfl) (fun w' hg => ?_)
  intro v0 _ v1 _ v2 _ v3 _ v4 _ v5 _ v6 _ v7 _ v8 h8 v9 _ v10 _ v11 _ v12 _ v13 _ v14 _ v15 _ v16 h16
  obtain rfl : v16 = (.slice (offA ad c0 (i + 1)) (a.l.length - (i + 1)) (c0 - (i + 1))) := h16
  simp only [GFin, List.take_succ_cons, List.take_zero, List.drop_succ_cons, List.drop_zero, Act.put, List.setIfInBounds_toArray, List.set_cons_succ, List.set_cons_zero]
  obtain ⟨A8, c8, rfl, o8⟩ := h8
  have G8 := Lib.hid hg
  have q8 := Lib.hid (Reads.below qA.out hg)
  replace o8 := Lib.hid o8
  have g8s := hg.size
  have b8 := Lib.hid (blk_more B0.out hg)
  have p8 := Lib.hid (blk_more P0.out hg)
  clear rA qA cB a1 l0 l1 l3 hg
  have hel : (a.l.eraseIdx i).length = a.l.length - 1 := by rw [List.length_eraseIdx, if_pos hi]
  have hsx : a.x < 1000000 := ha.out.x
  have l0 := b8.out.lt
  replace hel := Lib.hid hel
  by_cases hk1 : c.k = 1
  · have e2 : doY a c = (⟨a.l.eraseIdx i, a.s, a.x⟩, p.1, true) := by
      unfold doY
      rw [if_neg hk, dif_pos (by have := hci.out; omega), if_pos hk1]
      have : c.i.toNat = i := by have := hci.out; omega
      simp only [this, hp.out]
    have hy := hY.out
    rw [e2] at hy
    subst hy
    have j1 : (c.k == 1) = true := by simp [hk1]
    clear hY e2 hk
    go_wp2_with (first
      | ((with_reducible refine wpList_isApp (.tmp 68) (.tmp 76) 36 rfl ?_); refine wpList_append_rowsN (base := U.heap.size) (n := i) (xs := prs (a.l.take i)) rfl (.tmp 68) (.tmp 76) 36 rfl Try.underlying36 rpRow rfl o8.out U.heap.size _ (a.l.length - (i + 1)) (c0 - (i + 1)) (prs (a.l.drop (i + 1))) rfl q8.out (prs_one_cell _) (by unfold maxLen; omega) (by omega) g8s (prs (a.l.eraseIdx i)) (prs_erase _ _) (a.l.length - 1) (by omega) ?_; intro A9 c9 w9 o9 g9; have su := sU.out; have a0 := (g9.cell (p := ⟨w.heap.size + 1, 0, none⟩) (by show w.heap.size + 1 < _; omega)).trans (p8.out.cell 0); have G9 := G0.out.trans (Below.trans G8.out g9); have B9 := b8.out.below g9 (by omega); have f9 := B9.frozen 0; have d9 := B9.cell 0; have ZZ := (blk_more Z0.out G8.out).below g9 (by omega); have MM := (blk_more NU.out G8.out).below g9 (by omega); have PP := p8.out.below g9 (by omega); have N9 : Blk (w9.setCell ⟨w.heap.size, 0, none⟩ (.slice A9 (a.l.length - 1) c9)) w.heap.size 40 (stC (.slice A9 (a.l.length - 1) c9) (.slice A1 b.l.length c1) a b) := B9.set_ 0 _; have Z9 : Blk (w9.setCell ⟨w.heap.size, 0, none⟩ (.slice A9 (a.l.length - 1) c9)) (w.heap.size + 1 + 1) 40 stZ := (ZZ.far (p := ⟨w.heap.size, 0, none⟩) (show w.heap.size + 1 + 1 ≠ w.heap.size by omega) (.slice A9 (a.l.length - 1) c9)); have M9 : Blk (w9.setCell ⟨w.heap.size, 0, none⟩ (.slice A9 (a.l.length - 1) c9)) (w.heap.size + 1 + 1 + 1) 60 #[str p.1, .bool p.2] := (MM.far (p := ⟨w.heap.size, 0, none⟩) (show w.heap.size + 1 + 1 + 1 ≠ w.heap.size by omega) (.slice A9 (a.l.length - 1) c9)); have K9 : Kb w.heap.size w9 (w9.setCell ⟨w.heap.size, 0, none⟩ (.slice A9 (a.l.length - 1) c9)) := (Kb.refl _ _).set 0 _; have O9 := Lib.hid (or_kbE o9 K9 (by omega)); have H9 : Gr w (w9.setCell ⟨w.heap.size, 0, none⟩ (.slice A9 (a.l.length - 1) c9)) := keep_at G9 K9 (Nat.le_refl _) (by have := g9.size; omega); have z9 := Z9.lt; have u0 := B9.cell 0; have t0 := ZZ.cell 0; have v0 := ZZ.frozen 0; have u1 := B9.cell 1; have t1 := ZZ.cell 1; have v1 := ZZ.frozen 1; have u2 := B9.cell 2; have t2 := ZZ.cell 2; have v2 := ZZ.frozen 2; have u3 := B9.cell 3; have t3 := ZZ.cell 3; have v3 := ZZ.frozen 3; have u4 := B9.cell 4; have t4 := ZZ.cell 4; have v4 := ZZ.frozen 4; have u5 := B9.cell 5; have t5 := ZZ.cell 5; have v5 := ZZ.frozen 5; have m0 := MM.cell 0; replace M9 := Lib.hid M9; replace Z9 := Lib.hid Z9; replace N9 := Lib.hid N9; replace H9 := Lib.hid H9; replace G9 := Lib.hid G9; replace z9 := Lib.hid z9; clear K9 o9 g9 B9 b8 p8 o8 q8 G8 ZZ MM PP)
      | fail)
    go_region
    have n10 := ((((((Z9.out.set_ 0 (.slice A9 (a.l.length - 1) c9)).set_ 1 (.slice A1 b.l.length c1)).set_ 2 (.int .i64 (a.s : Int))).set_ 3 (.int .i64 (b.s : Int))).set_ 4 (.int .i64 (a.x : Int))).set_ 5 (.int .i64 (b.x : Int)))
    have k10 := ((((((Kb.refl (w.heap.size + 1 + 1) (w9.setCell ⟨w.heap.size, 0, none⟩ (.slice A9 (a.l.length - 1) c9))).set 0 (.slice A9 (a.l.length - 1) c9)).set 1 (.slice A1 b.l.length c1)).set 2 (.int .i64 (a.s : Int))).set 3 (.int .i64 (b.s : Int))).set 4 (.int .i64 (a.x : Int))).set 5 (.int .i64 (b.x : Int))
    replace n10 := Lib.hid (n10.drewN 1)
    replace k10 := Lib.hid (kb_drewR k10)
    go_wp2
    refine bodyPost_ret (results_cell_row2 Try.results11 _ _ (w.heap.size + 1 + 1) 40 _ (0, 0) _ rfl n10.out Try.underlying40 rfl (stInfo _ _ _ _ _ _)) rfl ?_
    have n10s := sU.out
    have n10t := z9.out
    exact ⟨A9, c9, by rw [hel.out]; rfl, (by
      have O10 := or_kbE O9.out k10.out (by omega)
      exact RO.ts (base := U.heap.size) (by unfold RO; rw [hel.out]; exact O10)), keep_at H9.out k10.out (by omega) (Nat.le_of_lt z9.out)⟩
  by_cases hk2 : c.k = 2
  · have e2 : doY a c = (⟨a.l.eraseIdx i, a.s, a.x + 1⟩, [], true) := by
      unfold doY
      rw [if_neg hk, dif_pos (by have := hci.out; omega), if_neg hk1, if_pos hk2]
      have : c.i.toNat = i := by have := hci.out; omega
      simp only [this]
    have hy := hY.out
    rw [e2] at hy
    subst hy
    have j1 : (c.k == 1) = false := by simp [hk1]
    have j2 : (c.k == 2) = true := by simp [hk2]
    have hxw : (a.x : Int) + 1 ≤ 1000000000000 := by omega
    have hxn : -1000 ≤ (a.x : Int) := by omega
    clear hY e2 hk
    go_wp2_with (first
      | ((with_reducible refine wpList_isApp (.tmp 68) (.tmp 76) 36 rfl ?_); refine wpList_append_rowsN (base := U.heap.size) (n := i) (xs := prs (a.l.take i)) rfl (.tmp 68) (.tmp 76) 36 rfl Try.underlying36 rpRow rfl o8.out U.heap.size _ (a.l.length - (i + 1)) (c0 - (i + 1)) (prs (a.l.drop (i + 1))) rfl q8.out (prs_one_cell _) (by unfold maxLen; omega) (by omega) g8s (prs (a.l.eraseIdx i)) (prs_erase _ _) (a.l.length - 1) (by omega) ?_; intro A9 c9 w9 o9 g9; have su := sU.out; have a0 := (g9.cell (p := ⟨w.heap.size + 1, 0, none⟩) (by show w.heap.size + 1 < _; omega)).trans (p8.out.cell 0); have G9 := G0.out.trans (Below.trans G8.out g9); have B9 := b8.out.below g9 (by omega); have f9 := B9.frozen 0; have d9 := B9.cell 0; have ZZ := (blk_more Z0.out G8.out).below g9 (by omega); have MM := (blk_more NU.out G8.out).below g9 (by omega); have PP := p8.out.below g9 (by omega); have N8 : Blk (w9.setCell ⟨w.heap.size, 0, none⟩ (.slice A9 (a.l.length - 1) c9)) w.heap.size 40 (stC (.slice A9 (a.l.length - 1) c9) (.slice A1 b.l.length c1) a b) := B9.set_ 0 _; have x9 := N8.cell 4; have y9 := N8.frozen 4; have N9 : Blk ((w9.setCell ⟨w.heap.size, 0, none⟩ (.slice A9 (a.l.length - 1) c9)).setCell ⟨w.heap.size, 4, none⟩ (.int .i64 ((a.x : Int) + 1))) w.heap.size 40 (#[.slice A9 (a.l.length - 1) c9, .slice A1 b.l.length c1, .int .i64 (a.s : Int), .int .i64 (b.s : Int), .int .i64 ((a.x : Int) + 1), .int .i64 (b.x : Int)]) := N8.set_ 4 _; have Z9 : Blk ((w9.setCell ⟨w.heap.size, 0, none⟩ (.slice A9 (a.l.length - 1) c9)).setCell ⟨w.heap.size, 4, none⟩ (.int .i64 ((a.x : Int) + 1))) (w.heap.size + 1 + 1) 40 stZ := ((ZZ.far (p := ⟨w.heap.size, 0, none⟩) (show w.heap.size + 1 + 1 ≠ w.heap.size by omega) (.slice A9 (a.l.length - 1) c9)).far (p := ⟨w.heap.size, 4, none⟩) (show w.heap.size + 1 + 1 ≠ w.heap.size by omega) (.int .i64 ((a.x : Int) + 1))); have M9 : Blk ((w9.setCell ⟨w.heap.size, 0, none⟩ (.slice A9 (a.l.length - 1) c9)).setCell ⟨w.heap.size, 4, none⟩ (.int .i64 ((a.x : Int) + 1))) (w.heap.size + 1 + 1 + 1) 60 #[str p.1, .bool p.2] := ((MM.far (p := ⟨w.heap.size, 0, none⟩) (show w.heap.size + 1 + 1 + 1 ≠ w.heap.size by omega) (.slice A9 (a.l.length - 1) c9)).far (p := ⟨w.heap.size, 4, none⟩) (show w.heap.size + 1 + 1 + 1 ≠ w.heap.size by omega) (.int .i64 ((a.x : Int) + 1))); have K9 : Kb w.heap.size w9 ((w9.setCell ⟨w.heap.size, 0, none⟩ (.slice A9 (a.l.length - 1) c9)).setCell ⟨w.heap.size, 4, none⟩ (.int .i64 ((a.x : Int) + 1))) := ((Kb.refl _ _).set 0 _).set 4 _; have O9 := Lib.hid (or_kbE o9 K9 (by omega)); have H9 : Gr w ((w9.setCell ⟨w.heap.size, 0, none⟩ (.slice A9 (a.l.length - 1) c9)).setCell ⟨w.heap.size, 4, none⟩ (.int .i64 ((a.x : Int) + 1))) := keep_at G9 K9 (Nat.le_refl _) (by have := g9.size; omega); have z9 := Z9.lt; replace M9 := Lib.hid M9; replace Z9 := Lib.hid Z9; replace N9 := Lib.hid N9; replace H9 := Lib.hid H9; replace G9 := Lib.hid G9; replace z9 := Lib.hid z9; clear K9 o9 g9 B9 b8 p8 o8 q8 G8 ZZ MM PP N8)
      | ((with_reducible refine wpList_isLoad 40 (.tmp 2) rfl ?_); refine wpList_load_row rfl 40 (.tmp 2) rfl w.heap.size rfl 40 _ (0, 0) _ N9.out Try.underlying40 rfl (stInfo _ _ _ _ _ _) ?_)
      | ((with_reducible refine wpList_isStore 40 (.tmp 4) (.tmp 102) rfl ?_); refine wpList_store_blk rfl 40 (.tmp 4) (.tmp 102) rfl (w.heap.size + 1 + 1) _ rfl rfl 40 stZ Z9.out (stInfo _ _ _ _ _ _) rfl (by simp [Value.oneCell']) ?_; intro w10 n10 k10 z10; replace n10 := Lib.hid n10; replace k10 := Lib.hid k10; clear z10)
      | fail)
    refine bodyPost_ret (results_cell_row2 Try.results11 _ _ (w.heap.size + 1 + 1) 40 _ (0, 0) _ rfl n10.out Try.underlying40 rfl (stInfo _ _ _ _ _ _)) rfl ?_
    have n10s := sU.out
    have n10t := z9.out
    exact ⟨A9, c9, by rw [hel.out]; rfl, (by
      have O10 := or_kbE O9.out k10.out (by omega)
      exact RO.ts (base := U.heap.size) (by unfold RO; rw [hel.out]; exact O10)), keep_at H9.out k10.out (by omega) (Nat.le_of_lt z9.out)⟩
  by_cases hk3 : c.k = 3
  · have e2 : doY a c = (putW a p, [], true) := by
      unfold doY
      rw [if_neg hk, dif_pos (by have := hci.out; omega), if_neg hk1, if_neg hk2, if_pos hk3]
      have : c.i.toNat = i := by have := hci.out; omega
      simp only [this, hp.out]
    have hy := hY.out
    rw [e2] at hy
    subst hy
    have j1 : (c.k == 1) = false := by simp [hk1]
    have j2 : (c.k == 2) = false := by simp [hk2]
    have j3 : (c.k == 3) = true := by simp [hk3]
    clear hY e2 hk
    go_wp2_with (first
      | ((with_reducible refine wpList_isApp (.tmp 68) (.tmp 76) 36 rfl ?_); refine wpList_append_rowsN (base := U.heap.size) (n := i) (xs := prs (a.l.take i)) rfl (.tmp 68) (.tmp 76) 36 rfl Try.underlying36 rpRow rfl o8.out U.heap.size _ (a.l.length - (i + 1)) (c0 - (i + 1)) (prs (a.l.drop (i + 1))) rfl q8.out (prs_one_cell _) (by unfold maxLen; omega) (by omega) g8s (prs (a.l.eraseIdx i)) (prs_erase _ _) (a.l.length - 1) (by omega) ?_; intro A9 c9 w9 o9 g9; have su := sU.out; have a0 := (g9.cell (p := ⟨w.heap.size + 1, 0, none⟩) (by show w.heap.size + 1 < _; omega)).trans (p8.out.cell 0); have G9 := G0.out.trans (Below.trans G8.out g9); have B9 := b8.out.below g9 (by omega); have f9 := B9.frozen 0; have d9 := B9.cell 0; have ZZ := (blk_more Z0.out G8.out).below g9 (by omega); have MM := (blk_more NU.out G8.out).below g9 (by omega); have PP := p8.out.below g9 (by omega); have N9 := B9; have Z9 : Blk w9 (w.heap.size + 1 + 1) 40 stZ := (ZZ); have M9 : Blk w9 (w.heap.size + 1 + 1 + 1) 60 #[str p.1, .bool p.2] := (MM); have m9 := M9.cell 1; have K9 : Kb w.heap.size w9 w9 := Kb.refl _ _; have H9 : Gr w w9 := keep_at G9 K9 (Nat.le_refl _) (by have := g9.size; omega); have z9 := Z9.lt; replace M9 := Lib.hid M9; replace Z9 := Lib.hid Z9; replace N9 := Lib.hid N9; replace H9 := Lib.hid H9; replace G9 := Lib.hid G9; replace z9 := Lib.hid z9; clear K9 o9 g9 B9 b8 p8 o8 q8 G8 ZZ MM PP)
      | ((with_reducible refine wpList_isLoad 40 (.tmp 2) rfl ?_); refine wpList_load_row rfl 40 (.tmp 2) rfl w.heap.size rfl 40 _ (0, 0) _ N9.out Try.underlying40 rfl (stInfo _ _ _ _ _ _) ?_)
      | ((with_reducible refine wpList_isLoad 60 (.tmp 8) rfl ?_); refine wpList_load_row rfl 60 (.tmp 8) rfl (w.heap.size + 1 + 1 + 1) rfl 60 _ (0, 0) _ M9.out Try.underlying60 rfl (rpInfo _ _) ?_)
      | fail)
    refine (rput0 (some ad) A1 c0 c1 a b p w9 ⟨_, _, rfl, hc1, hc2, Reads.more (Reads.below hrd.out G9.out) G9.out.size⟩ hl16 (by omega)).mono ?_
    rintro e w5 ⟨A5, c5, rfl, r5, g5⟩
    have Z5 := Lib.hid (blk_more Z9.out g5)
    have l5 := Lib.hid Z5.out.lt
    replace r5 := Lib.hid r5
    replace g5 := Lib.hid g5
    go_wp2_with (first
      | ((with_reducible refine wpList_isStore 40 (.tmp 4) (.tmp 108) rfl ?_); refine wpList_store_blk rfl 40 (.tmp 4) (.tmp 108) rfl (w.heap.size + 1 + 1) _ rfl rfl 40 stZ Z5.out (stInfo _ _ _ _ _ _) rfl (by simp [Value.oneCell']) ?_; intro w10 n10 k10 z10; replace n10 := Lib.hid n10; replace k10 := Lib.hid k10; clear z10))
    refine bodyPost_ret (results_cell_row2 Try.results11 _ _ (w.heap.size + 1 + 1) 40 _ (0, 0) _ rfl n10.out Try.underlying40 rfl (stInfo _ _ _ _ _ _)) rfl ?_
    have n10t := z9.out
    exact ⟨A5, c5, rfl, (r5.out.kb k10.out (by omega)).ts, keep_at (G9.out.trans g5.out) k10.out (by omega) (Nat.le_of_lt l5.out)⟩
  by_cases ht : p.2 = true
  · have e2 : doY a c = (a, [], false) := by
      unfold doY
      rw [if_neg hk, dif_pos (by have := hci.out; omega), if_neg hk1, if_neg hk2, if_neg hk3]
      have : c.i.toNat = i := by have := hci.out; omega
      simp only [this, ← hp.out, ht, if_true]
    have hy := hY.out
    rw [e2] at hy
    subst hy
    have j1 : (c.k == 1) = false := by simp [hk1]
    have j2 : (c.k == 2) = false := by simp [hk2]
    have j3 : (c.k == 3) = false := by simp [hk3]
    clear hY e2 hk
    go_wp2_with (first
      | ((with_reducible refine wpList_isApp (.tmp 68) (.tmp 76) 36 rfl ?_); refine wpList_append_rowsN (base := U.heap.size) (n := i) (xs := prs (a.l.take i)) rfl (.tmp 68) (.tmp 76) 36 rfl Try.underlying36 rpRow rfl o8.out U.heap.size _ (a.l.length - (i + 1)) (c0 - (i + 1)) (prs (a.l.drop (i + 1))) rfl q8.out (prs_one_cell _) (by unfold maxLen; omega) (by omega) g8s (prs (a.l.eraseIdx i)) (prs_erase _ _) (a.l.length - 1) (by omega) ?_; intro A9 c9 w9 o9 g9; have su := sU.out; have a0 := (g9.cell (p := ⟨w.heap.size + 1, 0, none⟩) (by show w.heap.size + 1 < _; omega)).trans (p8.out.cell 0); have G9 := G0.out.trans (Below.trans G8.out g9); have B9 := b8.out.below g9 (by omega); have f9 := B9.frozen 0; have d9 := B9.cell 0; have ZZ := (blk_more Z0.out G8.out).below g9 (by omega); have MM := (blk_more NU.out G8.out).below g9 (by omega); have PP := p8.out.below g9 (by omega); have N9 := B9; have Z9 : Blk w9 (w.heap.size + 1 + 1) 40 stZ := (ZZ); have M9 : Blk w9 (w.heap.size + 1 + 1 + 1) 60 #[str p.1, .bool p.2] := (MM); have m9 := M9.cell 1; have K9 : Kb w.heap.size w9 w9 := Kb.refl _ _; have H9 : Gr w w9 := keep_at G9 K9 (Nat.le_refl _) (by have := g9.size; omega); have z9 := Z9.lt; replace M9 := Lib.hid M9; replace Z9 := Lib.hid Z9; replace N9 := Lib.hid N9; replace H9 := Lib.hid H9; replace G9 := Lib.hid G9; replace z9 := Lib.hid z9; clear K9 o9 g9 B9 b8 p8 o8 q8 G8 ZZ MM PP)
      | ((with_reducible refine wpList_isLoad 40 (.tmp 2) rfl ?_); refine wpList_load_row rfl 40 (.tmp 2) rfl w.heap.size rfl 40 _ (0, 0) _ N9.out Try.underlying40 rfl (stInfo _ _ _ _ _ _) ?_)
      | ((with_reducible refine wpList_isStore 40 (.tmp 4) (.tmp 111) rfl ?_); refine wpList_store_blk rfl 40 (.tmp 4) (.tmp 111) rfl (w.heap.size + 1 + 1) _ rfl rfl 40 stZ Z9.out (stInfo _ _ _ _ _ _) rfl (by simp [Value.oneCell']) ?_; intro w10 n10 k10 z10; replace n10 := Lib.hid n10; replace k10 := Lib.hid k10; clear z10)
      | fail)
    refine bodyPost_ret (results_cell_row2 Try.results11 _ _ (w.heap.size + 1 + 1) 40 _ (0, 0) _ rfl n10.out Try.underlying40 rfl (stInfo _ _ _ _ _ _)) rfl ?_
    have n10t := z9.out
    have G10 := keep_at H9.out k10.out (by omega) (Nat.le_of_lt z9.out)
    exact ⟨some ad, c0, rfl, hts.out.gr G10, G10⟩
  · have ht' : p.2 = false := by simpa using ht
    have e2 : doY a c = (⟨a.l.set i (Crc.turned p.1 c.t c.m, true), a.s, a.x⟩, [], true) := by
      unfold doY
      rw [if_neg hk, dif_pos (by have := hci.out; omega), if_neg hk1, if_neg hk2, if_neg hk3]
      have : c.i.toNat = i := by have := hci.out; omega
      simp only [this, ← hp.out, ht', if_false, Bool.false_eq_true]
    have hy := hY.out
    rw [e2] at hy
    subst hy
    have hplen : p.1.length ≤ 100 := by rw [hp.out]; exact ha.out.p i hi
    have j1 : (c.k == 1) = false := by simp [hk1]
    have j2 : (c.k == 2) = false := by simp [hk2]
    have j3 : (c.k == 3) = false := by simp [hk3]
    have hpr := Lib.hid (prs_at a.l i hi)
    have hls0 : (a.l.set i (Crc.turned p.1 c.t c.m, true)).length = a.l.length := List.length_set
    have hls := Lib.hid hls0
    clear hY e2 hk
    go_wp2_with (first
      | ((with_reducible refine wpList_isApp (.tmp 68) (.tmp 76) 36 rfl ?_); refine wpList_append_rowsN (base := U.heap.size) (n := i) (xs := prs (a.l.take i)) rfl (.tmp 68) (.tmp 76) 36 rfl Try.underlying36 rpRow rfl o8.out U.heap.size _ (a.l.length - (i + 1)) (c0 - (i + 1)) (prs (a.l.drop (i + 1))) rfl q8.out (prs_one_cell _) (by unfold maxLen; omega) (by omega) g8s (prs (a.l.eraseIdx i)) (prs_erase _ _) (a.l.length - 1) (by omega) ?_; intro A9 c9 w9 o9 g9; have su := sU.out; have a0 := (g9.cell (p := ⟨w.heap.size + 1, 0, none⟩) (by show w.heap.size + 1 < _; omega)).trans (p8.out.cell 0); have G9 := G0.out.trans (Below.trans G8.out g9); have B9 := b8.out.below g9 (by omega); have f9 := B9.frozen 0; have d9 := B9.cell 0; have ZZ := (blk_more Z0.out G8.out).below g9 (by omega); have MM := (blk_more NU.out G8.out).below g9 (by omega); have PP := p8.out.below g9 (by omega); have N9 := B9; have Z9 : Blk w9 (w.heap.size + 1 + 1) 40 stZ := (ZZ); have M9 : Blk w9 (w.heap.size + 1 + 1 + 1) 60 #[str p.1, .bool p.2] := (MM); have m9 := M9.cell 1; have K9 : Kb w.heap.size w9 w9 := Kb.refl _ _; have H9 : Gr w w9 := keep_at G9 K9 (Nat.le_refl _) (by have := g9.size; omega); have z9 := Z9.lt; have q1 := PP.cell 2; have q2 := PP.cell 3; have q3 := PP.cell 4; have m0 := M9.cell 0; have P9 := Lib.hid PP; have lw9 : w.heap.size < w9.heap.size := N9.lt; replace M9 := Lib.hid M9; replace Z9 := Lib.hid Z9; replace N9 := Lib.hid N9; replace H9 := Lib.hid H9; replace G9 := Lib.hid G9; replace z9 := Lib.hid z9; clear K9 o9 g9 B9 b8 p8 o8 q8 G8 ZZ MM PP)
      | ((with_reducible refine wpList_isApp (.tmp 112) (.tmp 116) 36 rfl ?_); refine wpList_append_rowsN (base := w9.heap.size) (n := 0) (xs := []) rfl (.tmp 112) (.tmp 116) 36 rfl Try.underlying36 rpRow rfl (or_made 60 2 w9 w9.heap.size (Nat.le_refl _)) w9.heap.size (some ad) a.l.length c0 (prs a.l) rfl (Reads.below (Reads.more (Reads.below hrd.out G9.out) G9.out.size) ((Gr.refl w9).alloc _)) (prs_one_cell _) (by unfold maxLen; omega) (by omega) ((Gr.refl w9).alloc _).size _ rfl a.l.length (by omega) ?_; intro A3 c3 w3 o3 g3; have su := sU.out; have z9' := z9.out; have g9s := G9.out.size; have G3 : Gr w9 w3 := Below.trans ((Gr.refl w9).alloc _) g3; obtain ⟨gb, cur, rfl, hgb, bb, hc3, hm3, hcs, htk⟩ := own_blk o3 (by omega); rw [List.nil_append] at htk; have p0 : cur[i * 2]? = some (str p.1) := own_at htk hpr.out.1 hp.out (by omega); have p1 : cur[i * 2 + 1]? = some (.bool p.2) := own_at1 htk hpr.out.2 hp.out (by omega); have N3 := blk_more N9.out G3; have Z3 := blk_more Z9.out G3; have M3 := blk_more M9.out G3; have P3 := blk_more P9.out G3; have r0 := P3.cell 2; have r1 := P3.cell 3; have r2 := P3.cell 4; have r3 := M3.cell 0; have G3' := G9.out.trans G3; replace N3 := Lib.hid N3; replace Z3 := Lib.hid Z3; replace M3 := Lib.hid M3; replace P3 := Lib.hid P3; replace bb := Lib.hid bb; replace hgb := Lib.hid hgb; replace hc3 := Lib.hid hc3; replace hm3 := Lib.hid hm3; replace hcs := Lib.hid hcs; replace htk := Lib.hid htk; replace p0 := Lib.hid p0; replace p1 := Lib.hid p1; replace G3 := Lib.hid G3'; clear G3' g3 o3)
      | fail)
    clear q1 q2 q3 m0 m9 a0 f9 d9
    go_wp2
    refine region_grow rfl (by kernel_rfl) ?_
    refine GW.mv rfl trivial (.inl rfl) (kn0 (t := 10) (c := .slice (some ⟨gb, 0, none⟩) a.l.length c3) (by kernel_rfl) rfl) (eqv_lasts _) ?_
    refine GW.p1 (.pointer (some ⟨w.heap.size + 1, 2, none⟩)) rfl trivial (kn0 (t := 3) (c := .pointer (some ⟨w.heap.size + 1, 0, none⟩)) (by kernel_rfl) rfl) (fun ρ w' hρ hg => by simp [execOp, hρ, go_sem]) ?_
    refine GW.p1 (.int .i64 (i : Int)) rfl trivial (kn (t := 119) (j := 1) (by kernel_rfl)) (fun ρ w' hρ hg => by simp [execOp, hρ, go_sem, (hg.cell (p := ⟨w.heap.size + 1, 2, none⟩) P3.out.lt).trans (P3.out.cell 2)]) ?_
    refine GW.p1 (.pointer (some ⟨w.heap.size + 1 + 1 + 1, 0, none⟩)) rfl trivial (kn0 (t := 8) (c := .pointer (some ⟨w.heap.size + 1 + 1 + 1, 0, none⟩)) (by kernel_rfl) rfl) (fun ρ w' hρ hg => by simp [execOp, hρ, go_sem]) ?_
    refine GW.p1 (str p.1) rfl trivial (kn (t := 121) (j := 3) (by kernel_rfl)) (fun ρ w' hρ hg => by simp [execOp, hρ, go_sem, (hg.cell (p := ⟨w.heap.size + 1 + 1 + 1, 0, none⟩) M3.out.lt).trans (M3.out.cell 0)]) ?_
    refine GW.p1 (.pointer (some ⟨w.heap.size + 1, 3, none⟩)) rfl trivial (kn0 (t := 3) (c := .pointer (some ⟨w.heap.size + 1, 0, none⟩)) (by kernel_rfl) rfl) (fun ρ w' hρ hg => by simp [execOp, hρ, go_sem]) ?_
    refine GW.p1 (.int .i64 c.t) rfl trivial (kn (t := 123) (j := 5) (by kernel_rfl)) (fun ρ w' hρ hg => by simp [execOp, hρ, go_sem, (hg.cell (p := ⟨w.heap.size + 1, 3, none⟩) P3.out.lt).trans (P3.out.cell 3)]) ?_
    refine GW.p1 (.pointer (some ⟨w.heap.size + 1, 4, none⟩)) rfl trivial (kn0 (t := 3) (c := .pointer (some ⟨w.heap.size + 1, 0, none⟩)) (by kernel_rfl) rfl) (fun ρ w' hρ hg => by simp [execOp, hρ, go_sem]) ?_
    refine GW.p1 (.int .u32 (n32 c.m)) rfl trivial (kn (t := 125) (j := 7) (by kernel_rfl)) (fun ρ w' hρ hg => by simp [execOp, hρ, go_sem, (hg.cell (p := ⟨w.heap.size + 1, 4, none⟩) P3.out.lt).trans (P3.out.cell 4)]) ?_
    refine GW.call3 (eqv (str (Crc.turned p.1 c.t c.m))) rfl trivial rfl Try.func10 (by kernel_rfl) (by kernel_rfl) (eqv_lasts _) (kn (t := 122) (j := 4) (by kernel_rfl)) (kn (t := 124) (j := 6) (by kernel_rfl)) (kn (t := 126) (j := 8) (by kernel_rfl)) (fun v u s w' hg hv hu hs' => ?_) ?_
    · obtain rfl : v = _ := hv
      obtain rfl : u = _ := hu
      obtain rfl : s = _ := hs'
      refine (Crc.refTurn_any p.1 c.t c.m w' (by omega) ht1 ht2).mono ?_
      rintro e w9 ⟨rfl, hg9⟩
      exact ⟨_, rfl, rfl, hg9⟩
    refine GW.build #[(0, str (Crc.turned p.1 c.t c.m)), (1, .bool true)] (.agg #[str (Crc.turned p.1 c.t c.m), .bool true]) rfl trivial rfl ⟨rfl, (kn (t := 127) (j := 9) (by kernel_rfl)), rfl, knc, trivial⟩ (fun w => by kernel_rfl) ?_
    refine GW.p2 (.pointer (some ⟨gb, i * 2, none⟩)) rfl trivial (kn (t := 118) (j := 0) (by kernel_rfl)) (kn (t := 120) (j := 2) (by kernel_rfl)) (fun ρ w' h1 h2 hg => by show ((Instr.indexAt 36 (ρ (.tmp 118)) (ρ (.tmp 120)) >>= fun v => pure (Next.value v)) : Sem Next).run Try.prog w' = _; rw [h1, h2, Sem.run_bind, run_idxR w' Try.underlying36 (size := 2) (by kernel_rfl) ⟨gb, 0, none⟩ _ _ i hi]; simp [Addr.add]; exact fun h => h.symm) ?_
    refine GW.tailT (m := 12) (by simp) (by kernel_rfl) (by kernel_rfl) (fun w4 g4 => ?_)
    intro v0 _ v1 _ v2 _ v3 _ v4 _ v5 _ v6 _ v7 _ v8 _ v9 _ v10 h10 v11 h11
    obtain rfl : v10 = (.agg #[str (Crc.turned p.1 c.t c.m), .bool true]) := h10
    obtain rfl : v11 = (.pointer (some ⟨gb, i * 2, none⟩)) := h11
    simp only [GFin, List.take_succ_cons, List.take_zero, List.drop_succ_cons, List.drop_zero, Act.put, List.setIfInBounds_toArray, List.set_cons_succ, List.set_cons_zero]
    have b4 := blk_more bb.out g4
    have d0 := (b4.cell (i * 2)).trans p0.out
    have f0 := b4.frozen (i * 2)
    have d1 := ((b4.set_ (i * 2) (str (Crc.turned p.1 c.t c.m))).cell (i * 2 + 1)).trans (wy_ne p1.out (by omega))
    have f1 := (b4.set_ (i * 2) (str (Crc.turned p.1 c.t c.m))).frozen (i * 2 + 1)
    replace b4 := Lib.hid b4
    replace g4 := Lib.hid g4
    have bX : Blk ((w4.setCell ⟨gb, i * 2, none⟩ (str (Crc.turned p.1 c.t c.m))).setCell ⟨gb, i * 2 + 1, none⟩ (.bool true)) gb 60 _ := (b4.out.set_ (i * 2) (str (Crc.turned p.1 c.t c.m))).set_ (i * 2 + 1) (.bool true)
    have NX : Blk ((w4.setCell ⟨gb, i * 2, none⟩ (str (Crc.turned p.1 c.t c.m))).setCell ⟨gb, i * 2 + 1, none⟩ (.bool true)) w.heap.size 40 _ := ((blk_more N3.out g4.out).far (p := ⟨gb, i * 2, none⟩) (show w.heap.size ≠ gb by have := hgb.out; omega) (str (Crc.turned p.1 c.t c.m))).far (p := ⟨gb, i * 2 + 1, none⟩) (show w.heap.size ≠ gb by have := hgb.out; omega) (.bool true)
    have ZX : Blk ((w4.setCell ⟨gb, i * 2, none⟩ (str (Crc.turned p.1 c.t c.m))).setCell ⟨gb, i * 2 + 1, none⟩ (.bool true)) (w.heap.size + 1 + 1) 40 _ := ((blk_more Z3.out g4.out).far (p := ⟨gb, i * 2, none⟩) (show w.heap.size + 1 + 1 ≠ gb by have := hgb.out; omega) (str (Crc.turned p.1 c.t c.m))).far (p := ⟨gb, i * 2 + 1, none⟩) (show w.heap.size + 1 + 1 ≠ gb by have := hgb.out; omega) (.bool true)
    have fX := NX.frozen 0
    have dX := NX.cell 0
    have N25 : Blk (((w4.setCell ⟨gb, i * 2, none⟩ (str (Crc.turned p.1 c.t c.m))).setCell ⟨gb, i * 2 + 1, none⟩ (.bool true)).setCell ⟨w.heap.size, 0, none⟩ (.slice (some ⟨gb, 0, none⟩) a.l.length c3)) w.heap.size 40 (stC (.slice (some ⟨gb, 0, none⟩) a.l.length c3) (.slice A1 b.l.length c1) a b) := NX.set_ 0 _
    have Z25 := ZX.far (p := ⟨w.heap.size, 0, none⟩) (show w.heap.size + 1 + 1 ≠ w.heap.size by omega) (.slice (some ⟨gb, 0, none⟩) a.l.length c3)
    have b25 := bX.far (p := ⟨w.heap.size, 0, none⟩) (show gb ≠ w.heap.size by have := hgb.out; omega) (.slice (some ⟨gb, 0, none⟩) a.l.length c3)
    have KX : Kb gb w4 ((w4.setCell ⟨gb, i * 2, none⟩ (str (Crc.turned p.1 c.t c.m))).setCell ⟨gb, i * 2 + 1, none⟩ (.bool true)) := ((Kb.refl _ _).set (i * 2) (str (Crc.turned p.1 c.t c.m))).set (i * 2 + 1) (.bool true)
    have HX := keep_at (G3.out.trans g4.out) KX (by have := hgb.out; have := G0.out.size; omega) (Nat.le_of_lt b4.out.lt)
    have H25 := Lib.hid (keep_at HX ((Kb.refl w.heap.size ((w4.setCell ⟨gb, i * 2, none⟩ (str (Crc.turned p.1 c.t c.m))).setCell ⟨gb, i * 2 + 1, none⟩ (.bool true))).set 0 (.slice (some ⟨gb, 0, none⟩) a.l.length c3)) (Nat.le_refl _) (Nat.le_of_lt NX.lt))
    have z25 := Lib.hid Z25.lt
    have R25 := Lib.hid (ro_set (q := (Crc.turned p.1 c.t c.m, true)) (base := w9.heap.size) b25 hgb.out hc3.out hm3.out hcs.out htk.out hi)
    replace N25 := Lib.hid N25
    replace Z25 := Lib.hid Z25
    clear bX NX ZX b25 KX HX
    go_wp2_with (first
      | ((with_reducible refine wpList_isLoad 40 (.tmp 2) rfl ?_); refine wpList_load_row rfl 40 (.tmp 2) rfl w.heap.size rfl 40 _ (0, 0) _ N25.out Try.underlying40 rfl (stInfo _ _ _ _ _ _) ?_)
      | ((with_reducible refine wpList_isStore 40 (.tmp 4) (.tmp 134) rfl ?_); refine wpList_store_blk rfl 40 (.tmp 4) (.tmp 134) rfl (w.heap.size + 1 + 1) _ rfl rfl 40 stZ Z25.out (stInfo _ _ _ _ _ _) rfl (by simp [Value.oneCell']) ?_; intro w10 n10 k10 z10; replace n10 := Lib.hid n10; replace k10 := Lib.hid k10; clear z10))
    refine bodyPost_ret (results_cell_row2 Try.results11 _ _ (w.heap.size + 1 + 1) 40 _ (0, 0) _ rfl n10.out Try.underlying40 rfl (stInfo _ _ _ _ _ _)) rfl ?_
    have n10s := sU.out
    exact ⟨some ⟨gb, 0, none⟩, c3, rfl, (R25.out.kb k10.out (by omega)).ts, keep_at H25.out k10.out (by omega) (Nat.le_of_lt z25.out)⟩
set_option maxRecDepth 100000 in
set_option maxHeartbeats 8000000 in
theorem rdo1_at (A0 A1 : Option Addr) (c0 c1 : Nat) (a b : Way) (c : Ac) (ht1 : -9223372036854775808 ≤ c.t) (ht2 : c.t ≤ 9223372036854775807) (w : World) (h0 : TS w (.slice A0 a.l.length c0) a.l) (ha : Okw a) (hk : c.k ≠ 0) (i : Nat) (hci : c.i = (i : Int)) (hi : i < a.l.length) :
    Calls Try.prog 11 #[.agg (stC (.slice A1 b.l.length c1) (.slice A0 a.l.length c0) b a), .agg (acW c 1)] w fun e w' => ∃ A' c', e = .returned (.tuple #[.agg (stC (.slice A1 b.l.length c1) (.slice A' (doY a c).1.l.length c') b (doY a c).1), str (doY a c).2.1, .bool (doY a c).2.2]) ∧
      TS w' (.slice A' (doY a c).1.l.length c') (doY a c).1.l ∧ Gr w w' := by
  have k1 : (c.k == 0) = false := by simp; omega
  have hi0 : (0 : Int) ≤ (i : Int) := by omega
  have hi1 : (i : Int) < (a.l.length : Int) := by omega
  have hd1 : decide ((i : Int) < 0) = false := by simp
  have hd2 : decide ((a.l.length : Int) ≤ (i : Int)) = false := by simp; omega
  have hl16 := ha.l
  have hts := Lib.hid h0
  obtain ⟨_, _, hv, hc1, hc2, hrd⟩ := h0.rs
  injection hv with hv1 hv2 hv3
  subst hv1
  subst hv3
  obtain ⟨ad, rfl, hbl, e0, e1⟩ := rowP_at hrd hi
  unfold acW
  rw [hci]
  obtain ⟨p, hp⟩ : ∃ p, p = a.l[i] := ⟨_, rfl⟩
  rw [← hp] at e0 e1
  obtain ⟨Y, hY⟩ : ∃ Y, Y = doY a c := ⟨_, rfl⟩
  rw [← hY]
  replace hp := Lib.hid hp
  replace hY := Lib.hid hY
  replace hci := Lib.hid hci
  replace hrd := Lib.hid hrd
  replace ha := Lib.hid ha
  go_enter Try.func11, Try.ntmps11
  go_wp2
  have B0 := ((Blk.new w 40 (stC (.slice A1 b.l.length c1) (.slice (some ad) a.l.length c0) b a)).alloc (.cells #[.int .i64 c.k, .int .i64 1, .int .i64 (i : Int), .int .i64 c.t, .int .u32 (n32 c.m), str c.b] 31)).alloc (.cells stZ 40)
  have P0 := (Blk.new (w.alloc (.cells (stC (.slice A1 b.l.length c1) (.slice (some ad) a.l.length c0) b a) 40)) 31 #[.int .i64 c.k, .int .i64 1, .int .i64 (i : Int), .int .i64 c.t, .int .u32 (n32 c.m), str c.b]).alloc (.cells stZ 40)
  have Z0 := Blk.new ((w.alloc (.cells (stC (.slice A1 b.l.length c1) (.slice (some ad) a.l.length c0) b a) 40)).alloc (.cells #[.int .i64 c.k, .int .i64 1, .int .i64 (i : Int), .int .i64 c.t, .int .u32 (n32 c.m), str c.b] 31)) 40 stZ
  have G0 := (((Gr.refl w).alloc (.cells (stC (.slice A1 b.l.length c1) (.slice (some ad) a.l.length c0) b a) 40)).alloc (.cells #[.int .i64 c.k, .int .i64 1, .int .i64 (i : Int), .int .i64 c.t, .int .u32 (n32 c.m), str c.b] 31)).alloc (.cells stZ 40)
  have s0 : (((w.alloc (.cells (stC (.slice A1 b.l.length c1) (.slice (some ad) a.l.length c0) b a) 40)).alloc (.cells #[.int .i64 c.k, .int .i64 1, .int .i64 (i : Int), .int .i64 c.t, .int .u32 (n32 c.m), str c.b] 31)).alloc (.cells stZ 40)).heap.size = w.heap.size + 1 + 1 + 1 := by simp
  rw [World.size_alloc] at P0 Z0
  rw [World.size_alloc] at Z0
  replace B0 := Lib.hid B0
  replace P0 := Lib.hid P0
  replace Z0 := Lib.hid Z0
  replace G0 := Lib.hid G0
  replace s0 := Lib.hid s0
  generalize hW : (((w.alloc (.cells (stC (.slice A1 b.l.length c1) (.slice (some ad) a.l.length c0) b a) 40)).alloc (.cells #[.int .i64 c.k, .int .i64 1, .int .i64 (i : Int), .int .i64 c.t, .int .u32 (n32 c.m), str c.b] 31)).alloc (.cells stZ 40)) = W at B0 P0 Z0 G0 s0 ⊢
  clear hW
  have l0 := B0.out.lt
  have l1 := P0.out.lt
  have cB := B0.out.cell 1
  have a0 := P0.out.cell 0
  have a1 := P0.out.cell 2
  replace e0 := (G0.out.cell (p := ad.add (i * 2)) (by rw [block_of_add]; exact hbl)).trans e0
  replace e1 := (G0.out.cell (p := ⟨(ad.add (i * 2)).block, (ad.add (i * 2)).off + 1, none⟩) (by show (ad.add (i * 2)).block < _; rw [block_of_add]; exact hbl)).trans e1
  have lb : (ad.add (i * 2)).block < W.heap.size := by rw [block_of_add]; exact Nat.lt_of_lt_of_le hbl G0.out.size
  go_quiet (fail)
  generalize hV : W.drewN _ = V
  have gV : Gr W V := by rw [← hV]; exact below_drewN (Below.refl _ _) _
  have sV : V.heap.size = w.heap.size + 1 + 1 + 1 := by rw [← hV]; exact s0.out
  clear hV
  replace B0 := blk_more B0.out gV
  replace P0 := blk_more P0.out gV
  replace Z0 := Lib.hid (blk_more Z0.out gV)
  replace G0 := Lib.hid (G0.out.trans gV)
  replace e0 := (gV.cell (p := ad.add (i * 2)) lb).trans e0
  replace e1 := (gV.cell (p := ⟨(ad.add (i * 2)).block, (ad.add (i * 2)).off + 1, none⟩) lb).trans e1
  replace lb : (ad.add (i * 2)).block < V.heap.size := Nat.lt_of_lt_of_le lb gV.size
  replace l0 := B0.lt
  replace l1 := P0.lt
  replace cB := B0.cell 1
  replace a0 := P0.cell 0
  replace a1 := P0.cell 2
  replace B0 := Lib.hid B0
  replace P0 := Lib.hid P0
  clear s0 gV W
  obtain ⟨W, rfl⟩ : ∃ W, W = V := ⟨_, rfl⟩
  replace s0 := Lib.hid sV
  clear sV
  have x1 := (((Gr.refl W).alloc (.cells #[.string ⟨#[]⟩, .bool false] 60)).cell (p := ⟨w.heap.size + 1, 2, none⟩) l1).trans a1
  have xB := (((Gr.refl W).alloc (.cells #[.string ⟨#[]⟩, .bool false] 60)).cell (p := ⟨w.heap.size, 1, none⟩) l0).trans cB
  have xe0 := (((Gr.refl W).alloc (.cells #[.string ⟨#[]⟩, .bool false] 60)).cell (p := ad.add (i * 2)) lb).trans e0
  have xe1 := (((Gr.refl W).alloc (.cells #[.string ⟨#[]⟩, .bool false] 60)).cell (p := ⟨(ad.add (i * 2)).block, (ad.add (i * 2)).off + 1, none⟩) lb).trans e1
  have N0 := Blk.new W 60 #[.string ⟨#[]⟩, .bool false]
  have n0 := N0.cell 0
  have n1 := N0.cell 1
  have m0 := N0.frozen 0
  have m1 := N0.frozen 1
  have n1' := (N0.set_ 0 (str p.1)).cell 1
  have m1' := (N0.set_ 0 (str p.1)).frozen 1
  clear N0
  go_wp2
  go_region
  have gU : Gr W (W.alloc (.cells #[str p.1, .bool p.2] 60)).drew := ((Gr.refl W).alloc _).drew
  have NU : Blk (W.alloc (.cells #[str p.1, .bool p.2] 60)).drew W.heap.size 60 #[str p.1, .bool p.2] := Blk.new W _ _
  have sU : (W.alloc (.cells #[str p.1, .bool p.2] 60)).drew.heap.size = W.heap.size + 1 := by show (W.alloc _).heap.size = _; simp
  generalize hU : (W.alloc (.cells #[str p.1, .bool p.2] 60)).drew = U at gU NU sU ⊢
  clear hU n0 n1 m0 m1 n1' m1' x1 xB xe0 xe1 e0 e1
  replace B0 := blk_more B0.out gU
  replace P0 := blk_more P0.out gU
  replace Z0 := Lib.hid (blk_more Z0.out gU)
  replace G0 := G0.out.trans gU
  rw [s0.out] at NU sU
  rw [s0.out]
  have lw : w.heap.size ≤ U.heap.size := G0.size
  replace l0 := B0.lt
  replace l1 := P0.lt
  have l3 := NU.lt
  replace cB := B0.cell 1
  replace a0 := P0.cell 0
  replace a1 := P0.cell 2
  have rU : Reads U U.heap.size 2 (some ad) a.l.length (prs a.l) := Reads.more (Reads.below hrd.out G0) lw
  have rA := Lib.hid (reads_pre rU (Nat.le_of_lt hi))
  have qA := Lib.hid (reads_off rU hi hc1)
  replace G0 := Lib.hid G0
  replace B0 := Lib.hid B0
  replace P0 := Lib.hid P0
  replace NU := Lib.hid NU
  replace sU := Lib.hid sU
  have hp4 : (IntKind.i64).wrap ((i : Int) + 1) = (i : Int) + 1 := by rw [IntKind.wrap_i64]; omega
  have hpc : i ≤ c0 := by omega
  have hpd : a.l.length - (i + 1) ≤ 16 := by omega
  clear lb hd1 hd2 rU gU s0
  clear W
  go_wp2
  refine region_grow rfl (by kernel_rfl) ?_
  refine GW.empty (E := 60) (size := 2) (base := U.heap.size) (Nat.le_refl _) rfl trivial rfl (fun w => by kernel_rfl) ?_
  refine GW.mv rfl trivial (.inl rfl) (kn0 (t := 7) (c := .int .i64 1) (by kernel_rfl) rfl) (eqv_lasts _) ?_
  refine GW.p1 (.pointer (some ⟨w.heap.size, 0, none⟩)) rfl trivial (kn0 (t := 2) (c := .pointer (some ⟨w.heap.size, 0, none⟩)) (by kernel_rfl) rfl) (fun ρ w' hρ hg => by simp [execOp, hρ, go_sem]) ?_
  refine GW.p2 (.pointer (some ⟨w.heap.size, 1, none⟩)) rfl trivial (kn (t := 62) (j := 2) (by kernel_rfl)) (kn (t := 61) (j := 1) (by kernel_rfl)) (fun ρ w' h1 h2 hg => by simp [execOp, h1, h2, go_sem]) ?_
  refine GW.p1 (.slice (some ad) a.l.length c0) rfl trivial (kn (t := 63) (j := 3) (by kernel_rfl)) (fun ρ w' hρ hg => by simp [execOp, hρ, go_sem, (hg.cell (p := ⟨w.heap.size, 1, none⟩) B0.out.lt).trans (B0.out.cell 1)]) ?_
  refine GW.p1 (.pointer (some ⟨w.heap.size + 1, 2, none⟩)) rfl trivial (kn0 (t := 3) (c := .pointer (some ⟨w.heap.size + 1, 0, none⟩)) (by kernel_rfl) rfl) (fun ρ w' hρ hg => by simp [execOp, hρ, go_sem]) ?_
  refine GW.p1 (.int .i64 (i : Int)) rfl trivial (kn (t := 65) (j := 5) (by kernel_rfl)) (fun ρ w' hρ hg => by simp [execOp, hρ, go_sem, (hg.cell (p := ⟨w.heap.size + 1, 2, none⟩) P0.out.lt).trans (P0.out.cell 2)]) ?_
  refine GW.p2 (.slice (some ad) i c0) rfl trivial (kn (t := 64) (j := 4) (by kernel_rfl)) (kn (t := 66) (j := 6) (by kernel_rfl)) (fun ρ w' h1 h2 hg => by show ((Instr.sliceAt 36 (ρ (.tmp 64)) none (some (ρ (.tmp 66))) none >>= fun v => pure (Next.value v)) : Sem Next).run Try.prog w' = _; rw [h1, h2, Sem.run_bind, run_slice_hiR Try.underlying36 rpSize ad _ _ i _ hpc]; simp) ?_
  refine GW.appER (base := U.heap.size) (xs := prs (a.l.take i)) rfl trivial rfl Try.underlying36 rpRow (kn (t := 60) (j := 0) (by kernel_rfl)) (kn (t := 67) (j := 7) (by kernel_rfl)) rA.out (prs_one_cell _) (by unfold maxLen; omega) (by omega) (Nat.le_refl _) ?_
  refine GW.mv rfl trivial (.inl rfl) (kn0 (t := 7) (c := .int .i64 1) (by kernel_rfl) rfl) (eqv_lasts _) ?_
  refine GW.p1 (.pointer (some ⟨w.heap.size, 0, none⟩)) rfl trivial (kn0 (t := 2) (c := .pointer (some ⟨w.heap.size, 0, none⟩)) (by kernel_rfl) rfl) (fun ρ w' hρ hg => by simp [execOp, hρ, go_sem]) ?_
  refine GW.p2 (.pointer (some ⟨w.heap.size, 1, none⟩)) rfl trivial (kn (t := 70) (j := 10) (by kernel_rfl)) (kn (t := 69) (j := 9) (by kernel_rfl)) (fun ρ w' h1 h2 hg => by simp [execOp, h1, h2, go_sem]) ?_
  refine GW.p1 (.slice (some ad) a.l.length c0) rfl trivial (kn (t := 71) (j := 11) (by kernel_rfl)) (fun ρ w' hρ hg => by simp [execOp, hρ, go_sem, (hg.cell (p := ⟨w.heap.size, 1, none⟩) B0.out.lt).trans (B0.out.cell 1)]) ?_
  refine GW.p1 (.pointer (some ⟨w.heap.size + 1, 2, none⟩)) rfl trivial (kn0 (t := 3) (c := .pointer (some ⟨w.heap.size + 1, 0, none⟩)) (by kernel_rfl) rfl) (fun ρ w' hρ hg => by simp [execOp, hρ, go_sem]) ?_
  refine GW.p1 (.int .i64 (i : Int)) rfl trivial (kn (t := 73) (j := 13) (by kernel_rfl)) (fun ρ w' hρ hg => by simp [execOp, hρ, go_sem, (hg.cell (p := ⟨w.heap.size + 1, 2, none⟩) P0.out.lt).trans (P0.out.cell 2)]) ?_
  refine GW.bin (.int .i64 ((i + 1 : Nat) : Int)) rfl trivial rfl (kn (t := 74) (j := 14) (by kernel_rfl)) knc (fun w' => by simp [go_sem, hp4]) ?_
  refine GW.p2 (.slice (offA ad c0 (i + 1)) (a.l.length - (i + 1)) (c0 - (i + 1))) rfl trivial (kn (t := 72) (j := 12) (by kernel_rfl)) (kn (t := 75) (j := 15) (by kernel_rfl)) (fun ρ w' h1 h2 hg => by show ((Instr.sliceAt 36 (ρ (.tmp 72)) (some (ρ (.tmp 75))) none none >>= fun v => pure (Next.value v)) : Sem Next).run Try.prog w' = _; rw [h1, h2, Sem.run_bind, run_slice_off Try.underlying36 rpSize ad _ _ (i + 1) _ hi hc1]; simp) ?_
  refine GW.tailT (m := 17) (by simp) (by kernel_rfl) (by kernel_rfl) (fun w' hg => ?_)
  intro v0 _ v1 _ v2 _ v3 _ v4 _ v5 _ v6 _ v7 _ v8 h8 v9 _ v10 _ v11 _ v12 _ v13 _ v14 _ v15 _ v16 h16
  obtain rfl : v16 = (.slice (offA ad c0 (i + 1)) (a.l.length - (i + 1)) (c0 - (i + 1))) := h16
  simp only [GFin, List.take_succ_cons, List.take_zero, List.drop_succ_cons, List.drop_zero, Act.put, List.setIfInBounds_toArray, List.set_cons_succ, List.set_cons_zero]
  obtain ⟨A8, c8, rfl, o8⟩ := h8
  have G8 := Lib.hid hg
  have q8 := Lib.hid (Reads.below qA.out hg)
  replace o8 := Lib.hid o8
  have g8s := hg.size
  have b8 := Lib.hid (blk_more B0.out hg)
  have p8 := Lib.hid (blk_more P0.out hg)
  clear rA qA cB a1 l0 l1 l3 hg
  have hel : (a.l.eraseIdx i).length = a.l.length - 1 := by rw [List.length_eraseIdx, if_pos hi]
  have hsx : a.x < 1000000 := ha.out.x
  have l0 := b8.out.lt
  replace hel := Lib.hid hel
  by_cases hk1 : c.k = 1
  · have e2 : doY a c = (⟨a.l.eraseIdx i, a.s, a.x⟩, p.1, true) := by
      unfold doY
      rw [if_neg hk, dif_pos (by have := hci.out; omega), if_pos hk1]
      have : c.i.toNat = i := by have := hci.out; omega
      simp only [this, hp.out]
    have hy := hY.out
    rw [e2] at hy
    subst hy
    have j1 : (c.k == 1) = true := by simp [hk1]
    clear hY e2 hk
    go_wp2_with (first
      | ((with_reducible refine wpList_isApp (.tmp 68) (.tmp 76) 36 rfl ?_); refine wpList_append_rowsN (base := U.heap.size) (n := i) (xs := prs (a.l.take i)) rfl (.tmp 68) (.tmp 76) 36 rfl Try.underlying36 rpRow rfl o8.out U.heap.size _ (a.l.length - (i + 1)) (c0 - (i + 1)) (prs (a.l.drop (i + 1))) rfl q8.out (prs_one_cell _) (by unfold maxLen; omega) (by omega) g8s (prs (a.l.eraseIdx i)) (prs_erase _ _) (a.l.length - 1) (by omega) ?_; intro A9 c9 w9 o9 g9; have su := sU.out; have a0 := (g9.cell (p := ⟨w.heap.size + 1, 0, none⟩) (by show w.heap.size + 1 < _; omega)).trans (p8.out.cell 0); have G9 := G0.out.trans (Below.trans G8.out g9); have B9 := b8.out.below g9 (by omega); have f9 := B9.frozen 1; have d9 := B9.cell 1; have ZZ := (blk_more Z0.out G8.out).below g9 (by omega); have MM := (blk_more NU.out G8.out).below g9 (by omega); have PP := p8.out.below g9 (by omega); have N9 : Blk (w9.setCell ⟨w.heap.size, 1, none⟩ (.slice A9 (a.l.length - 1) c9)) w.heap.size 40 (stC (.slice A1 b.l.length c1) (.slice A9 (a.l.length - 1) c9) b a) := B9.set_ 1 _; have Z9 : Blk (w9.setCell ⟨w.heap.size, 1, none⟩ (.slice A9 (a.l.length - 1) c9)) (w.heap.size + 1 + 1) 40 stZ := (ZZ.far (p := ⟨w.heap.size, 1, none⟩) (show w.heap.size + 1 + 1 ≠ w.heap.size by omega) (.slice A9 (a.l.length - 1) c9)); have M9 : Blk (w9.setCell ⟨w.heap.size, 1, none⟩ (.slice A9 (a.l.length - 1) c9)) (w.heap.size + 1 + 1 + 1) 60 #[str p.1, .bool p.2] := (MM.far (p := ⟨w.heap.size, 1, none⟩) (show w.heap.size + 1 + 1 + 1 ≠ w.heap.size by omega) (.slice A9 (a.l.length - 1) c9)); have K9 : Kb w.heap.size w9 (w9.setCell ⟨w.heap.size, 1, none⟩ (.slice A9 (a.l.length - 1) c9)) := (Kb.refl _ _).set 1 _; have O9 := Lib.hid (or_kbE o9 K9 (by omega)); have H9 : Gr w (w9.setCell ⟨w.heap.size, 1, none⟩ (.slice A9 (a.l.length - 1) c9)) := keep_at G9 K9 (Nat.le_refl _) (by have := g9.size; omega); have z9 := Z9.lt; have u0 := B9.cell 0; have t0 := ZZ.cell 0; have v0 := ZZ.frozen 0; have u1 := B9.cell 1; have t1 := ZZ.cell 1; have v1 := ZZ.frozen 1; have u2 := B9.cell 2; have t2 := ZZ.cell 2; have v2 := ZZ.frozen 2; have u3 := B9.cell 3; have t3 := ZZ.cell 3; have v3 := ZZ.frozen 3; have u4 := B9.cell 4; have t4 := ZZ.cell 4; have v4 := ZZ.frozen 4; have u5 := B9.cell 5; have t5 := ZZ.cell 5; have v5 := ZZ.frozen 5; have m0 := MM.cell 0; replace M9 := Lib.hid M9; replace Z9 := Lib.hid Z9; replace N9 := Lib.hid N9; replace H9 := Lib.hid H9; replace G9 := Lib.hid G9; replace z9 := Lib.hid z9; clear K9 o9 g9 B9 b8 p8 o8 q8 G8 ZZ MM PP)
      | fail)
    go_region
    have n10 := ((((((Z9.out.set_ 0 (.slice A1 b.l.length c1)).set_ 1 (.slice A9 (a.l.length - 1) c9)).set_ 2 (.int .i64 (b.s : Int))).set_ 3 (.int .i64 (a.s : Int))).set_ 4 (.int .i64 (b.x : Int))).set_ 5 (.int .i64 (a.x : Int)))
    have k10 := ((((((Kb.refl (w.heap.size + 1 + 1) (w9.setCell ⟨w.heap.size, 1, none⟩ (.slice A9 (a.l.length - 1) c9))).set 0 (.slice A1 b.l.length c1)).set 1 (.slice A9 (a.l.length - 1) c9)).set 2 (.int .i64 (b.s : Int))).set 3 (.int .i64 (a.s : Int))).set 4 (.int .i64 (b.x : Int))).set 5 (.int .i64 (a.x : Int))
    replace n10 := Lib.hid (n10.drewN 1)
    replace k10 := Lib.hid (kb_drewR k10)
    go_wp2
    refine bodyPost_ret (results_cell_row2 Try.results11 _ _ (w.heap.size + 1 + 1) 40 _ (0, 0) _ rfl n10.out Try.underlying40 rfl (stInfo _ _ _ _ _ _)) rfl ?_
    have n10s := sU.out
    have n10t := z9.out
    exact ⟨A9, c9, by rw [hel.out]; rfl, (by
      have O10 := or_kbE O9.out k10.out (by omega)
      exact RO.ts (base := U.heap.size) (by unfold RO; rw [hel.out]; exact O10)), keep_at H9.out k10.out (by omega) (Nat.le_of_lt z9.out)⟩
  by_cases hk2 : c.k = 2
  · have e2 : doY a c = (⟨a.l.eraseIdx i, a.s, a.x + 1⟩, [], true) := by
      unfold doY
      rw [if_neg hk, dif_pos (by have := hci.out; omega), if_neg hk1, if_pos hk2]
      have : c.i.toNat = i := by have := hci.out; omega
      simp only [this]
    have hy := hY.out
    rw [e2] at hy
    subst hy
    have j1 : (c.k == 1) = false := by simp [hk1]
    have j2 : (c.k == 2) = true := by simp [hk2]
    have hxw : (a.x : Int) + 1 ≤ 1000000000000 := by omega
    have hxn : -1000 ≤ (a.x : Int) := by omega
    clear hY e2 hk
    go_wp2_with (first
      | ((with_reducible refine wpList_isApp (.tmp 68) (.tmp 76) 36 rfl ?_); refine wpList_append_rowsN (base := U.heap.size) (n := i) (xs := prs (a.l.take i)) rfl (.tmp 68) (.tmp 76) 36 rfl Try.underlying36 rpRow rfl o8.out U.heap.size _ (a.l.length - (i + 1)) (c0 - (i + 1)) (prs (a.l.drop (i + 1))) rfl q8.out (prs_one_cell _) (by unfold maxLen; omega) (by omega) g8s (prs (a.l.eraseIdx i)) (prs_erase _ _) (a.l.length - 1) (by omega) ?_; intro A9 c9 w9 o9 g9; have su := sU.out; have a0 := (g9.cell (p := ⟨w.heap.size + 1, 0, none⟩) (by show w.heap.size + 1 < _; omega)).trans (p8.out.cell 0); have G9 := G0.out.trans (Below.trans G8.out g9); have B9 := b8.out.below g9 (by omega); have f9 := B9.frozen 1; have d9 := B9.cell 1; have ZZ := (blk_more Z0.out G8.out).below g9 (by omega); have MM := (blk_more NU.out G8.out).below g9 (by omega); have PP := p8.out.below g9 (by omega); have N8 : Blk (w9.setCell ⟨w.heap.size, 1, none⟩ (.slice A9 (a.l.length - 1) c9)) w.heap.size 40 (stC (.slice A1 b.l.length c1) (.slice A9 (a.l.length - 1) c9) b a) := B9.set_ 1 _; have x9 := N8.cell 5; have y9 := N8.frozen 5; have N9 : Blk ((w9.setCell ⟨w.heap.size, 1, none⟩ (.slice A9 (a.l.length - 1) c9)).setCell ⟨w.heap.size, 5, none⟩ (.int .i64 ((a.x : Int) + 1))) w.heap.size 40 (#[.slice A1 b.l.length c1, .slice A9 (a.l.length - 1) c9, .int .i64 (b.s : Int), .int .i64 (a.s : Int), .int .i64 (b.x : Int), .int .i64 ((a.x : Int) + 1)]) := N8.set_ 5 _; have Z9 : Blk ((w9.setCell ⟨w.heap.size, 1, none⟩ (.slice A9 (a.l.length - 1) c9)).setCell ⟨w.heap.size, 5, none⟩ (.int .i64 ((a.x : Int) + 1))) (w.heap.size + 1 + 1) 40 stZ := ((ZZ.far (p := ⟨w.heap.size, 1, none⟩) (show w.heap.size + 1 + 1 ≠ w.heap.size by omega) (.slice A9 (a.l.length - 1) c9)).far (p := ⟨w.heap.size, 5, none⟩) (show w.heap.size + 1 + 1 ≠ w.heap.size by omega) (.int .i64 ((a.x : Int) + 1))); have M9 : Blk ((w9.setCell ⟨w.heap.size, 1, none⟩ (.slice A9 (a.l.length - 1) c9)).setCell ⟨w.heap.size, 5, none⟩ (.int .i64 ((a.x : Int) + 1))) (w.heap.size + 1 + 1 + 1) 60 #[str p.1, .bool p.2] := ((MM.far (p := ⟨w.heap.size, 1, none⟩) (show w.heap.size + 1 + 1 + 1 ≠ w.heap.size by omega) (.slice A9 (a.l.length - 1) c9)).far (p := ⟨w.heap.size, 5, none⟩) (show w.heap.size + 1 + 1 + 1 ≠ w.heap.size by omega) (.int .i64 ((a.x : Int) + 1))); have K9 : Kb w.heap.size w9 ((w9.setCell ⟨w.heap.size, 1, none⟩ (.slice A9 (a.l.length - 1) c9)).setCell ⟨w.heap.size, 5, none⟩ (.int .i64 ((a.x : Int) + 1))) := ((Kb.refl _ _).set 1 _).set 5 _; have O9 := Lib.hid (or_kbE o9 K9 (by omega)); have H9 : Gr w ((w9.setCell ⟨w.heap.size, 1, none⟩ (.slice A9 (a.l.length - 1) c9)).setCell ⟨w.heap.size, 5, none⟩ (.int .i64 ((a.x : Int) + 1))) := keep_at G9 K9 (Nat.le_refl _) (by have := g9.size; omega); have z9 := Z9.lt; replace M9 := Lib.hid M9; replace Z9 := Lib.hid Z9; replace N9 := Lib.hid N9; replace H9 := Lib.hid H9; replace G9 := Lib.hid G9; replace z9 := Lib.hid z9; clear K9 o9 g9 B9 b8 p8 o8 q8 G8 ZZ MM PP N8)
      | ((with_reducible refine wpList_isLoad 40 (.tmp 2) rfl ?_); refine wpList_load_row rfl 40 (.tmp 2) rfl w.heap.size rfl 40 _ (0, 0) _ N9.out Try.underlying40 rfl (stInfo _ _ _ _ _ _) ?_)
      | ((with_reducible refine wpList_isStore 40 (.tmp 4) (.tmp 102) rfl ?_); refine wpList_store_blk rfl 40 (.tmp 4) (.tmp 102) rfl (w.heap.size + 1 + 1) _ rfl rfl 40 stZ Z9.out (stInfo _ _ _ _ _ _) rfl (by simp [Value.oneCell']) ?_; intro w10 n10 k10 z10; replace n10 := Lib.hid n10; replace k10 := Lib.hid k10; clear z10)
      | fail)
    refine bodyPost_ret (results_cell_row2 Try.results11 _ _ (w.heap.size + 1 + 1) 40 _ (0, 0) _ rfl n10.out Try.underlying40 rfl (stInfo _ _ _ _ _ _)) rfl ?_
    have n10s := sU.out
    have n10t := z9.out
    exact ⟨A9, c9, by rw [hel.out]; rfl, (by
      have O10 := or_kbE O9.out k10.out (by omega)
      exact RO.ts (base := U.heap.size) (by unfold RO; rw [hel.out]; exact O10)), keep_at H9.out k10.out (by omega) (Nat.le_of_lt z9.out)⟩
  by_cases hk3 : c.k = 3
  · have e2 : doY a c = (putW a p, [], true) := by
      unfold doY
      rw [if_neg hk, dif_pos (by have := hci.out; omega), if_neg hk1, if_neg hk2, if_pos hk3]
      have : c.i.toNat = i := by have := hci.out; omega
      simp only [this, hp.out]
    have hy := hY.out
    rw [e2] at hy
    subst hy
    have j1 : (c.k == 1) = false := by simp [hk1]
    have j2 : (c.k == 2) = false := by simp [hk2]
    have j3 : (c.k == 3) = true := by simp [hk3]
    clear hY e2 hk
    go_wp2_with (first
      | ((with_reducible refine wpList_isApp (.tmp 68) (.tmp 76) 36 rfl ?_); refine wpList_append_rowsN (base := U.heap.size) (n := i) (xs := prs (a.l.take i)) rfl (.tmp 68) (.tmp 76) 36 rfl Try.underlying36 rpRow rfl o8.out U.heap.size _ (a.l.length - (i + 1)) (c0 - (i + 1)) (prs (a.l.drop (i + 1))) rfl q8.out (prs_one_cell _) (by unfold maxLen; omega) (by omega) g8s (prs (a.l.eraseIdx i)) (prs_erase _ _) (a.l.length - 1) (by omega) ?_; intro A9 c9 w9 o9 g9; have su := sU.out; have a0 := (g9.cell (p := ⟨w.heap.size + 1, 0, none⟩) (by show w.heap.size + 1 < _; omega)).trans (p8.out.cell 0); have G9 := G0.out.trans (Below.trans G8.out g9); have B9 := b8.out.below g9 (by omega); have f9 := B9.frozen 1; have d9 := B9.cell 1; have ZZ := (blk_more Z0.out G8.out).below g9 (by omega); have MM := (blk_more NU.out G8.out).below g9 (by omega); have PP := p8.out.below g9 (by omega); have N9 := B9; have Z9 : Blk w9 (w.heap.size + 1 + 1) 40 stZ := (ZZ); have M9 : Blk w9 (w.heap.size + 1 + 1 + 1) 60 #[str p.1, .bool p.2] := (MM); have m9 := M9.cell 1; have K9 : Kb w.heap.size w9 w9 := Kb.refl _ _; have H9 : Gr w w9 := keep_at G9 K9 (Nat.le_refl _) (by have := g9.size; omega); have z9 := Z9.lt; replace M9 := Lib.hid M9; replace Z9 := Lib.hid Z9; replace N9 := Lib.hid N9; replace H9 := Lib.hid H9; replace G9 := Lib.hid G9; replace z9 := Lib.hid z9; clear K9 o9 g9 B9 b8 p8 o8 q8 G8 ZZ MM PP)
      | ((with_reducible refine wpList_isLoad 40 (.tmp 2) rfl ?_); refine wpList_load_row rfl 40 (.tmp 2) rfl w.heap.size rfl 40 _ (0, 0) _ N9.out Try.underlying40 rfl (stInfo _ _ _ _ _ _) ?_)
      | ((with_reducible refine wpList_isLoad 60 (.tmp 8) rfl ?_); refine wpList_load_row rfl 60 (.tmp 8) rfl (w.heap.size + 1 + 1 + 1) rfl 60 _ (0, 0) _ M9.out Try.underlying60 rfl (rpInfo _ _) ?_)
      | fail)
    refine (rput1 (some ad) A1 c0 c1 a b p w9 ⟨_, _, rfl, hc1, hc2, Reads.more (Reads.below hrd.out G9.out) G9.out.size⟩ hl16 (by omega)).mono ?_
    rintro e w5 ⟨A5, c5, rfl, r5, g5⟩
    have Z5 := Lib.hid (blk_more Z9.out g5)
    have l5 := Lib.hid Z5.out.lt
    replace r5 := Lib.hid r5
    replace g5 := Lib.hid g5
    go_wp2_with (first
      | ((with_reducible refine wpList_isStore 40 (.tmp 4) (.tmp 108) rfl ?_); refine wpList_store_blk rfl 40 (.tmp 4) (.tmp 108) rfl (w.heap.size + 1 + 1) _ rfl rfl 40 stZ Z5.out (stInfo _ _ _ _ _ _) rfl (by simp [Value.oneCell']) ?_; intro w10 n10 k10 z10; replace n10 := Lib.hid n10; replace k10 := Lib.hid k10; clear z10))
    refine bodyPost_ret (results_cell_row2 Try.results11 _ _ (w.heap.size + 1 + 1) 40 _ (0, 0) _ rfl n10.out Try.underlying40 rfl (stInfo _ _ _ _ _ _)) rfl ?_
    have n10t := z9.out
    exact ⟨A5, c5, rfl, (r5.out.kb k10.out (by omega)).ts, keep_at (G9.out.trans g5.out) k10.out (by omega) (Nat.le_of_lt l5.out)⟩
  by_cases ht : p.2 = true
  · have e2 : doY a c = (a, [], false) := by
      unfold doY
      rw [if_neg hk, dif_pos (by have := hci.out; omega), if_neg hk1, if_neg hk2, if_neg hk3]
      have : c.i.toNat = i := by have := hci.out; omega
      simp only [this, ← hp.out, ht, if_true]
    have hy := hY.out
    rw [e2] at hy
    subst hy
    have j1 : (c.k == 1) = false := by simp [hk1]
    have j2 : (c.k == 2) = false := by simp [hk2]
    have j3 : (c.k == 3) = false := by simp [hk3]
    clear hY e2 hk
    go_wp2_with (first
      | ((with_reducible refine wpList_isApp (.tmp 68) (.tmp 76) 36 rfl ?_); refine wpList_append_rowsN (base := U.heap.size) (n := i) (xs := prs (a.l.take i)) rfl (.tmp 68) (.tmp 76) 36 rfl Try.underlying36 rpRow rfl o8.out U.heap.size _ (a.l.length - (i + 1)) (c0 - (i + 1)) (prs (a.l.drop (i + 1))) rfl q8.out (prs_one_cell _) (by unfold maxLen; omega) (by omega) g8s (prs (a.l.eraseIdx i)) (prs_erase _ _) (a.l.length - 1) (by omega) ?_; intro A9 c9 w9 o9 g9; have su := sU.out; have a0 := (g9.cell (p := ⟨w.heap.size + 1, 0, none⟩) (by show w.heap.size + 1 < _; omega)).trans (p8.out.cell 0); have G9 := G0.out.trans (Below.trans G8.out g9); have B9 := b8.out.below g9 (by omega); have f9 := B9.frozen 1; have d9 := B9.cell 1; have ZZ := (blk_more Z0.out G8.out).below g9 (by omega); have MM := (blk_more NU.out G8.out).below g9 (by omega); have PP := p8.out.below g9 (by omega); have N9 := B9; have Z9 : Blk w9 (w.heap.size + 1 + 1) 40 stZ := (ZZ); have M9 : Blk w9 (w.heap.size + 1 + 1 + 1) 60 #[str p.1, .bool p.2] := (MM); have m9 := M9.cell 1; have K9 : Kb w.heap.size w9 w9 := Kb.refl _ _; have H9 : Gr w w9 := keep_at G9 K9 (Nat.le_refl _) (by have := g9.size; omega); have z9 := Z9.lt; replace M9 := Lib.hid M9; replace Z9 := Lib.hid Z9; replace N9 := Lib.hid N9; replace H9 := Lib.hid H9; replace G9 := Lib.hid G9; replace z9 := Lib.hid z9; clear K9 o9 g9 B9 b8 p8 o8 q8 G8 ZZ MM PP)
      | ((with_reducible refine wpList_isLoad 40 (.tmp 2) rfl ?_); refine wpList_load_row rfl 40 (.tmp 2) rfl w.heap.size rfl 40 _ (0, 0) _ N9.out Try.underlying40 rfl (stInfo _ _ _ _ _ _) ?_)
      | ((with_reducible refine wpList_isStore 40 (.tmp 4) (.tmp 111) rfl ?_); refine wpList_store_blk rfl 40 (.tmp 4) (.tmp 111) rfl (w.heap.size + 1 + 1) _ rfl rfl 40 stZ Z9.out (stInfo _ _ _ _ _ _) rfl (by simp [Value.oneCell']) ?_; intro w10 n10 k10 z10; replace n10 := Lib.hid n10; replace k10 := Lib.hid k10; clear z10)
      | fail)
    refine bodyPost_ret (results_cell_row2 Try.results11 _ _ (w.heap.size + 1 + 1) 40 _ (0, 0) _ rfl n10.out Try.underlying40 rfl (stInfo _ _ _ _ _ _)) rfl ?_
    have n10t := z9.out
    have G10 := keep_at H9.out k10.out (by omega) (Nat.le_of_lt z9.out)
    exact ⟨some ad, c0, rfl, hts.out.gr G10, G10⟩
  · have ht' : p.2 = false := by simpa using ht
    have e2 : doY a c = (⟨a.l.set i (Crc.turned p.1 c.t c.m, true), a.s, a.x⟩, [], true) := by
      unfold doY
      rw [if_neg hk, dif_pos (by have := hci.out; omega), if_neg hk1, if_neg hk2, if_neg hk3]
      have : c.i.toNat = i := by have := hci.out; omega
      simp only [this, ← hp.out, ht', if_false, Bool.false_eq_true]
    have hy := hY.out
    rw [e2] at hy
    subst hy
    have hplen : p.1.length ≤ 100 := by rw [hp.out]; exact ha.out.p i hi
    have j1 : (c.k == 1) = false := by simp [hk1]
    have j2 : (c.k == 2) = false := by simp [hk2]
    have j3 : (c.k == 3) = false := by simp [hk3]
    have hpr := Lib.hid (prs_at a.l i hi)
    have hls0 : (a.l.set i (Crc.turned p.1 c.t c.m, true)).length = a.l.length := List.length_set
    have hls := Lib.hid hls0
    clear hY e2 hk
    go_wp2_with (first
      | ((with_reducible refine wpList_isApp (.tmp 68) (.tmp 76) 36 rfl ?_); refine wpList_append_rowsN (base := U.heap.size) (n := i) (xs := prs (a.l.take i)) rfl (.tmp 68) (.tmp 76) 36 rfl Try.underlying36 rpRow rfl o8.out U.heap.size _ (a.l.length - (i + 1)) (c0 - (i + 1)) (prs (a.l.drop (i + 1))) rfl q8.out (prs_one_cell _) (by unfold maxLen; omega) (by omega) g8s (prs (a.l.eraseIdx i)) (prs_erase _ _) (a.l.length - 1) (by omega) ?_; intro A9 c9 w9 o9 g9; have su := sU.out; have a0 := (g9.cell (p := ⟨w.heap.size + 1, 0, none⟩) (by show w.heap.size + 1 < _; omega)).trans (p8.out.cell 0); have G9 := G0.out.trans (Below.trans G8.out g9); have B9 := b8.out.below g9 (by omega); have f9 := B9.frozen 1; have d9 := B9.cell 1; have ZZ := (blk_more Z0.out G8.out).below g9 (by omega); have MM := (blk_more NU.out G8.out).below g9 (by omega); have PP := p8.out.below g9 (by omega); have N9 := B9; have Z9 : Blk w9 (w.heap.size + 1 + 1) 40 stZ := (ZZ); have M9 : Blk w9 (w.heap.size + 1 + 1 + 1) 60 #[str p.1, .bool p.2] := (MM); have m9 := M9.cell 1; have K9 : Kb w.heap.size w9 w9 := Kb.refl _ _; have H9 : Gr w w9 := keep_at G9 K9 (Nat.le_refl _) (by have := g9.size; omega); have z9 := Z9.lt; have q1 := PP.cell 2; have q2 := PP.cell 3; have q3 := PP.cell 4; have m0 := M9.cell 0; have P9 := Lib.hid PP; have lw9 : w.heap.size < w9.heap.size := N9.lt; replace M9 := Lib.hid M9; replace Z9 := Lib.hid Z9; replace N9 := Lib.hid N9; replace H9 := Lib.hid H9; replace G9 := Lib.hid G9; replace z9 := Lib.hid z9; clear K9 o9 g9 B9 b8 p8 o8 q8 G8 ZZ MM PP)
      | ((with_reducible refine wpList_isApp (.tmp 112) (.tmp 116) 36 rfl ?_); refine wpList_append_rowsN (base := w9.heap.size) (n := 0) (xs := []) rfl (.tmp 112) (.tmp 116) 36 rfl Try.underlying36 rpRow rfl (or_made 60 2 w9 w9.heap.size (Nat.le_refl _)) w9.heap.size (some ad) a.l.length c0 (prs a.l) rfl (Reads.below (Reads.more (Reads.below hrd.out G9.out) G9.out.size) ((Gr.refl w9).alloc _)) (prs_one_cell _) (by unfold maxLen; omega) (by omega) ((Gr.refl w9).alloc _).size _ rfl a.l.length (by omega) ?_; intro A3 c3 w3 o3 g3; have su := sU.out; have z9' := z9.out; have g9s := G9.out.size; have G3 : Gr w9 w3 := Below.trans ((Gr.refl w9).alloc _) g3; obtain ⟨gb, cur, rfl, hgb, bb, hc3, hm3, hcs, htk⟩ := own_blk o3 (by omega); rw [List.nil_append] at htk; have p0 : cur[i * 2]? = some (str p.1) := own_at htk hpr.out.1 hp.out (by omega); have p1 : cur[i * 2 + 1]? = some (.bool p.2) := own_at1 htk hpr.out.2 hp.out (by omega); have N3 := blk_more N9.out G3; have Z3 := blk_more Z9.out G3; have M3 := blk_more M9.out G3; have P3 := blk_more P9.out G3; have r0 := P3.cell 2; have r1 := P3.cell 3; have r2 := P3.cell 4; have r3 := M3.cell 0; have G3' := G9.out.trans G3; replace N3 := Lib.hid N3; replace Z3 := Lib.hid Z3; replace M3 := Lib.hid M3; replace P3 := Lib.hid P3; replace bb := Lib.hid bb; replace hgb := Lib.hid hgb; replace hc3 := Lib.hid hc3; replace hm3 := Lib.hid hm3; replace hcs := Lib.hid hcs; replace htk := Lib.hid htk; replace p0 := Lib.hid p0; replace p1 := Lib.hid p1; replace G3 := Lib.hid G3'; clear G3' g3 o3)
      | fail)
    clear q1 q2 q3 m0 m9 a0 f9 d9
    go_wp2
    refine region_grow rfl (by kernel_rfl) ?_
    refine GW.mv rfl trivial (.inl rfl) (kn0 (t := 10) (c := .slice (some ⟨gb, 0, none⟩) a.l.length c3) (by kernel_rfl) rfl) (eqv_lasts _) ?_
    refine GW.p1 (.pointer (some ⟨w.heap.size + 1, 2, none⟩)) rfl trivial (kn0 (t := 3) (c := .pointer (some ⟨w.heap.size + 1, 0, none⟩)) (by kernel_rfl) rfl) (fun ρ w' hρ hg => by simp [execOp, hρ, go_sem]) ?_
    refine GW.p1 (.int .i64 (i : Int)) rfl trivial (kn (t := 119) (j := 1) (by kernel_rfl)) (fun ρ w' hρ hg => by simp [execOp, hρ, go_sem, (hg.cell (p := ⟨w.heap.size + 1, 2, none⟩) P3.out.lt).trans (P3.out.cell 2)]) ?_
    refine GW.p1 (.pointer (some ⟨w.heap.size + 1 + 1 + 1, 0, none⟩)) rfl trivial (kn0 (t := 8) (c := .pointer (some ⟨w.heap.size + 1 + 1 + 1, 0, none⟩)) (by kernel_rfl) rfl) (fun ρ w' hρ hg => by simp [execOp, hρ, go_sem]) ?_
    refine GW.p1 (str p.1) rfl trivial (kn (t := 121) (j := 3) (by kernel_rfl)) (fun ρ w' hρ hg => by simp [execOp, hρ, go_sem, (hg.cell (p := ⟨w.heap.size + 1 + 1 + 1, 0, none⟩) M3.out.lt).trans (M3.out.cell 0)]) ?_
    refine GW.p1 (.pointer (some ⟨w.heap.size + 1, 3, none⟩)) rfl trivial (kn0 (t := 3) (c := .pointer (some ⟨w.heap.size + 1, 0, none⟩)) (by kernel_rfl) rfl) (fun ρ w' hρ hg => by simp [execOp, hρ, go_sem]) ?_
    refine GW.p1 (.int .i64 c.t) rfl trivial (kn (t := 123) (j := 5) (by kernel_rfl)) (fun ρ w' hρ hg => by simp [execOp, hρ, go_sem, (hg.cell (p := ⟨w.heap.size + 1, 3, none⟩) P3.out.lt).trans (P3.out.cell 3)]) ?_
    refine GW.p1 (.pointer (some ⟨w.heap.size + 1, 4, none⟩)) rfl trivial (kn0 (t := 3) (c := .pointer (some ⟨w.heap.size + 1, 0, none⟩)) (by kernel_rfl) rfl) (fun ρ w' hρ hg => by simp [execOp, hρ, go_sem]) ?_
    refine GW.p1 (.int .u32 (n32 c.m)) rfl trivial (kn (t := 125) (j := 7) (by kernel_rfl)) (fun ρ w' hρ hg => by simp [execOp, hρ, go_sem, (hg.cell (p := ⟨w.heap.size + 1, 4, none⟩) P3.out.lt).trans (P3.out.cell 4)]) ?_
    refine GW.call3 (eqv (str (Crc.turned p.1 c.t c.m))) rfl trivial rfl Try.func10 (by kernel_rfl) (by kernel_rfl) (eqv_lasts _) (kn (t := 122) (j := 4) (by kernel_rfl)) (kn (t := 124) (j := 6) (by kernel_rfl)) (kn (t := 126) (j := 8) (by kernel_rfl)) (fun v u s w' hg hv hu hs' => ?_) ?_
    · obtain rfl : v = _ := hv
      obtain rfl : u = _ := hu
      obtain rfl : s = _ := hs'
      refine (Crc.refTurn_any p.1 c.t c.m w' (by omega) ht1 ht2).mono ?_
      rintro e w9 ⟨rfl, hg9⟩
      exact ⟨_, rfl, rfl, hg9⟩
    refine GW.build #[(0, str (Crc.turned p.1 c.t c.m)), (1, .bool true)] (.agg #[str (Crc.turned p.1 c.t c.m), .bool true]) rfl trivial rfl ⟨rfl, (kn (t := 127) (j := 9) (by kernel_rfl)), rfl, knc, trivial⟩ (fun w => by kernel_rfl) ?_
    refine GW.p2 (.pointer (some ⟨gb, i * 2, none⟩)) rfl trivial (kn (t := 118) (j := 0) (by kernel_rfl)) (kn (t := 120) (j := 2) (by kernel_rfl)) (fun ρ w' h1 h2 hg => by show ((Instr.indexAt 36 (ρ (.tmp 118)) (ρ (.tmp 120)) >>= fun v => pure (Next.value v)) : Sem Next).run Try.prog w' = _; rw [h1, h2, Sem.run_bind, run_idxR w' Try.underlying36 (size := 2) (by kernel_rfl) ⟨gb, 0, none⟩ _ _ i hi]; simp [Addr.add]; exact fun h => h.symm) ?_
    refine GW.tailT (m := 12) (by simp) (by kernel_rfl) (by kernel_rfl) (fun w4 g4 => ?_)
    intro v0 _ v1 _ v2 _ v3 _ v4 _ v5 _ v6 _ v7 _ v8 _ v9 _ v10 h10 v11 h11
    obtain rfl : v10 = (.agg #[str (Crc.turned p.1 c.t c.m), .bool true]) := h10
    obtain rfl : v11 = (.pointer (some ⟨gb, i * 2, none⟩)) := h11
    simp only [GFin, List.take_succ_cons, List.take_zero, List.drop_succ_cons, List.drop_zero, Act.put, List.setIfInBounds_toArray, List.set_cons_succ, List.set_cons_zero]
    have b4 := blk_more bb.out g4
    have d0 := (b4.cell (i * 2)).trans p0.out
    have f0 := b4.frozen (i * 2)
    have d1 := ((b4.set_ (i * 2) (str (Crc.turned p.1 c.t c.m))).cell (i * 2 + 1)).trans (wy_ne p1.out (by omega))
    have f1 := (b4.set_ (i * 2) (str (Crc.turned p.1 c.t c.m))).frozen (i * 2 + 1)
    replace b4 := Lib.hid b4
    replace g4 := Lib.hid g4
    have bX : Blk ((w4.setCell ⟨gb, i * 2, none⟩ (str (Crc.turned p.1 c.t c.m))).setCell ⟨gb, i * 2 + 1, none⟩ (.bool true)) gb 60 _ := (b4.out.set_ (i * 2) (str (Crc.turned p.1 c.t c.m))).set_ (i * 2 + 1) (.bool true)
    have NX : Blk ((w4.setCell ⟨gb, i * 2, none⟩ (str (Crc.turned p.1 c.t c.m))).setCell ⟨gb, i * 2 + 1, none⟩ (.bool true)) w.heap.size 40 _ := ((blk_more N3.out g4.out).far (p := ⟨gb, i * 2, none⟩) (show w.heap.size ≠ gb by have := hgb.out; omega) (str (Crc.turned p.1 c.t c.m))).far (p := ⟨gb, i * 2 + 1, none⟩) (show w.heap.size ≠ gb by have := hgb.out; omega) (.bool true)
    have ZX : Blk ((w4.setCell ⟨gb, i * 2, none⟩ (str (Crc.turned p.1 c.t c.m))).setCell ⟨gb, i * 2 + 1, none⟩ (.bool true)) (w.heap.size + 1 + 1) 40 _ := ((blk_more Z3.out g4.out).far (p := ⟨gb, i * 2, none⟩) (show w.heap.size + 1 + 1 ≠ gb by have := hgb.out; omega) (str (Crc.turned p.1 c.t c.m))).far (p := ⟨gb, i * 2 + 1, none⟩) (show w.heap.size + 1 + 1 ≠ gb by have := hgb.out; omega) (.bool true)
    have fX := NX.frozen 1
    have dX := NX.cell 1
    have N25 : Blk (((w4.setCell ⟨gb, i * 2, none⟩ (str (Crc.turned p.1 c.t c.m))).setCell ⟨gb, i * 2 + 1, none⟩ (.bool true)).setCell ⟨w.heap.size, 1, none⟩ (.slice (some ⟨gb, 0, none⟩) a.l.length c3)) w.heap.size 40 (stC (.slice A1 b.l.length c1) (.slice (some ⟨gb, 0, none⟩) a.l.length c3) b a) := NX.set_ 1 _
    have Z25 := ZX.far (p := ⟨w.heap.size, 1, none⟩) (show w.heap.size + 1 + 1 ≠ w.heap.size by omega) (.slice (some ⟨gb, 0, none⟩) a.l.length c3)
    have b25 := bX.far (p := ⟨w.heap.size, 1, none⟩) (show gb ≠ w.heap.size by have := hgb.out; omega) (.slice (some ⟨gb, 0, none⟩) a.l.length c3)
    have KX : Kb gb w4 ((w4.setCell ⟨gb, i * 2, none⟩ (str (Crc.turned p.1 c.t c.m))).setCell ⟨gb, i * 2 + 1, none⟩ (.bool true)) := ((Kb.refl _ _).set (i * 2) (str (Crc.turned p.1 c.t c.m))).set (i * 2 + 1) (.bool true)
    have HX := keep_at (G3.out.trans g4.out) KX (by have := hgb.out; have := G0.out.size; omega) (Nat.le_of_lt b4.out.lt)
    have H25 := Lib.hid (keep_at HX ((Kb.refl w.heap.size ((w4.setCell ⟨gb, i * 2, none⟩ (str (Crc.turned p.1 c.t c.m))).setCell ⟨gb, i * 2 + 1, none⟩ (.bool true))).set 1 (.slice (some ⟨gb, 0, none⟩) a.l.length c3)) (Nat.le_refl _) (Nat.le_of_lt NX.lt))
    have z25 := Lib.hid Z25.lt
    have R25 := Lib.hid (ro_set (q := (Crc.turned p.1 c.t c.m, true)) (base := w9.heap.size) b25 hgb.out hc3.out hm3.out hcs.out htk.out hi)
    replace N25 := Lib.hid N25
    replace Z25 := Lib.hid Z25
    clear bX NX ZX b25 KX HX
    go_wp2_with (first
      | ((with_reducible refine wpList_isLoad 40 (.tmp 2) rfl ?_); refine wpList_load_row rfl 40 (.tmp 2) rfl w.heap.size rfl 40 _ (0, 0) _ N25.out Try.underlying40 rfl (stInfo _ _ _ _ _ _) ?_)
      | ((with_reducible refine wpList_isStore 40 (.tmp 4) (.tmp 134) rfl ?_); refine wpList_store_blk rfl 40 (.tmp 4) (.tmp 134) rfl (w.heap.size + 1 + 1) _ rfl rfl 40 stZ Z25.out (stInfo _ _ _ _ _ _) rfl (by simp [Value.oneCell']) ?_; intro w10 n10 k10 z10; replace n10 := Lib.hid n10; replace k10 := Lib.hid k10; clear z10))
    refine bodyPost_ret (results_cell_row2 Try.results11 _ _ (w.heap.size + 1 + 1) 40 _ (0, 0) _ rfl n10.out Try.underlying40 rfl (stInfo _ _ _ _ _ _)) rfl ?_
    have n10s := sU.out
    exact ⟨some ⟨gb, 0, none⟩, c3, rfl, (R25.out.kb k10.out (by omega)).ts, keep_at H25.out k10.out (by omega) (Nat.le_of_lt z25.out)⟩
end Ln
end Go.Proofs.Ytpkbdodclkgjpaa

