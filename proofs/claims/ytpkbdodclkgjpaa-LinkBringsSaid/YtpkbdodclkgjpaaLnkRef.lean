/- A reference's state; the walk of its put. No condition but sizes. -/
import Derived.Test.YtpkbdodclkgjpaaLnkNew
set_option linter.unusedVariables false
set_option linter.unusedSimpArgs false
namespace Go.Proofs.Ytpkbdodclkgjpaa
open Go Go.RowKit Go.Shelf W
namespace Ln
def pr (p : Pk) : List Value := [str p.1, .bool p.2]
def prs (l : List Pk) : List Value := l.flatMap pr
theorem pr_len (p : Pk) : (pr p).length = 2 := rfl
theorem prs_len (l : List Pk) : (prs l).length = l.length * 2 := flat_len pr 2 pr_len l
theorem prs_append (a b : List Pk) : prs (a ++ b) = prs a ++ prs b := by simp [prs]
theorem prs_one_cell (l : List Pk) : ∀ u ∈ prs l, u.oneCell' = true := by
  intro u hu
  obtain ⟨p, _, hp⟩ := List.mem_flatMap.1 hu
  simp [pr] at hp
  rcases hp with rfl | rfl <;> rfl
theorem rpRow : RowType Try.prog 60 2 24 := by
  obtain ⟨i, h1, h2, h3, h4⟩ := info_parts (show (Try.prog.info? 60).map (fun i => (i.zero, i.size, i.bytes)) = some (some (.agg #[.string ⟨#[]⟩, .bool false]), 2, 24) by kernel_rfl)
  exact ⟨i, _, h1, h2, h3, h4, rfl, by omega⟩
/-- A slice of packets that is read alone. -/
def RS (w : World) (v : Value) (l : List Pk) : Prop := ∃ A c, v = .slice A l.length c ∧ l.length ≤ c ∧ c ≤ maxLen ∧ Reads w w.heap.size 2 A l.length (prs l)
theorem RS.gr {w w' : World} {v : Value} {l : List Pk} (h : RS w v l) (k : Gr w w') : RS w' v l := by
  obtain ⟨A, c, h1, h2, h3, h4⟩ := h
  exact ⟨A, c, h1, h2, h3, Reads.more (Reads.below h4 k) k.size⟩
/-- A slice of packets of one's own, above a place. -/
def RO (w : World) (base : Nat) (v : Value) (l : List Pk) : Prop := OR 60 2 w base v l.length (prs l)
theorem RO.rs {w : World} {base : Nat} {v : Value} {l : List Pk} (h : RO w base v l) : RS w v l := by
  obtain ⟨A, c, he, q1, q2⟩ := OR.shape h
  subst he
  exact ⟨A, c, rfl, q1, q2, OR.reads h⟩
theorem RO.low {w : World} {base b : Nat} {v : Value} {l : List Pk} (h : RO w base v l) (hb : b ≤ base) : RO w b v l := by
  refine ⟨h.1, ?_⟩
  rcases h.2 with h | ⟨g, cap, cur, hv, hg, r⟩
  · exact .inl h
  · exact .inr ⟨g, cap, cur, hv, Nat.le_trans hb hg, r⟩
theorem RO.kb {w w' : World} {base g : Nat} {v : Value} {l : List Pk} (h : RO w base v l) (k : Kb g w w') (hg : g < base) : RO w' base v l := or_kbE h k hg
theorem RO.gr {w w' : World} {base : Nat} {v : Value} {l : List Pk} (h : RO w base v l) (k : Gr w w') : RO w' base v l := OR.below h k
/-- The state's value. -/
abbrev stC (s0 s1 : Value) (a b : Way) : Array Value := #[s0, s1, .int .i64 (a.s : Int), .int .i64 (b.s : Int), .int .i64 (a.x : Int), .int .i64 (b.x : Int)]
abbrev stZ : Array Value := #[.slice none 0 0, .slice none 0 0, .int .i64 0, .int .i64 0, .int .i64 0, .int .i64 0]
theorem stInfo (s0 s1 a b c d : Value) : (Try.prog.info? 40).map (·.size) = some (#[s0, s1, a, b, c, d] : Array Value).size := by kernel_rfl
theorem step_append_empty {P : Program} {E : TypeId} {size base g : Nat} {w : World} {ops : Array Oper} {o : Oper} {a : Act} {K : Act → World → Prop} {Q : Exit → Act → World → Prop} {E' : Prop} (hgd : o.guard = none) (s x : Operand) (T : TypeId)
    (ho : o.op = .call { callee := .builtin .append, args := #[s, x], argTypes := #[T, T] }) {bytes : Nat} (ht : P.underlying T = some (.slice E)) (hE : RowType P E size bytes) (hs : a.eval s = .slice (some ⟨g, 0, none⟩) 0 0) (hown : OR E size w base (.slice (some ⟨g, 0, none⟩) 0 0) 0 [])
    (B : Nat) (A : Option Addr) (m c : Nat) (news : List Value) (hx : a.eval x = .slice A m c) (hr : Reads w B size A m news) (h1 : ∀ u ∈ news, u.oneCell' = true) (hlen : m ≤ maxLen) (hby : m * bytes ≤ 140737488355328) (hbase : base ≤ w.heap.size)
    (h : ∀ A' c' w', OR E size w' base (.slice A' m c') m news → Gr w w' → K (a.put o.dst (.slice A' m c')) w') :
    if Region.wanted o (yielded ops a.tmps) = true then Oper.wp P o a w K Q else E' := by
  have hw : Region.wanted o (yielded ops a.tmps) = true := by simp [Region.wanted, hgd]
  rw [if_pos hw]
  obtain ⟨A', c', w', hrun, h2, h3⟩ := run_append_empty (P := P) T o.type ht hE hown B A m c news hr h1 hlen hby hbase
  unfold Oper.wp execOp
  simp only [ho, resolve, invoke, builtin, Sem.run_bind, Sem.run_pure, Result.andThen_ok, List.map_toArray, List.map_cons, List.map_nil, hs, hx, hrun]
  exact h A' c' w' h2 h3
theorem wpList_isLoad {P : Program} {w : World} {ops : Array Oper} {rest : List Oper} {o : Oper} {a : Act} {Q : Exit → Act → World → Prop} (T : TypeId) (x : Operand)
    (ho : o.op = .load T x) (h : wpList P ops Q (o :: rest) a w) : wpList P ops Q (o :: rest) a w := h
theorem keep_at {w a b : World} {n : Nat} (h : Gr w a) (k : Kb n a b) (h1 : w.heap.size ≤ n) (h2 : n ≤ a.heap.size) : Gr w b := Below.trans h ((Kb.below k h2).mono h1)
theorem or_made (E : TypeId) (size : Nat) (w : World) (base : Nat) (hb : base ≤ w.heap.size) : OR E size (w.alloc (.cells #[] E)) base (.slice (some ⟨w.heap.size, 0, none⟩) 0 0) 0 [] :=
  ⟨by simp, .inr ⟨w.heap.size, 0, #[], rfl, hb, heap_alloc_new w _, Nat.le_refl _, by unfold maxLen; omega, by simp, by simp⟩⟩
theorem new1p (w : World) (p : Pk) : Reads (w.alloc (.cells #[str p.1, .bool p.2] 60)) (w.heap.size + 1) 2 (some ⟨w.heap.size, 0, none⟩) 1 (prs [p]) := by
  refine ⟨rfl, fun _ => ⟨_, rfl, Nat.lt_succ_self _, fun j u hu => ?_⟩⟩
  have ha : (⟨w.heap.size, 0, none⟩ : Addr).add j = ⟨w.heap.size, j, none⟩ := by unfold Addr.add; split <;> simp_all
  rw [ha, (Blk.new w _ _).cell]
  simpa [prs, pr] using hu
theorem rs_tail {w : World} {ad : Addr} {c : Nat} {l : List Pk} (h : RS w (.slice (some ad) l.length c) l) (hl : 2 ≤ l.length) : RS w (.slice (some ⟨ad.block, ad.off + 2, none⟩) (l.length - 1) (c - 1)) (l.eraseIdx 0) := by
  obtain ⟨A, c', hv, h1, h2, h3⟩ := h
  injection hv with e1 _ e3
  subst e1
  subst e3
  have hlen : (l.eraseIdx 0).length = l.length - 1 := by rw [List.length_eraseIdx, if_pos (by omega)]
  refine ⟨_, _, by rw [hlen], by omega, by omega, ?_⟩
  rw [hlen]
  refine ⟨by rw [prs_len, hlen], fun _ => ?_⟩
  obtain ⟨ad', ha, hb, hc⟩ := h3.2 (by omega)
  injection ha with ha
  subst ha
  refine ⟨_, rfl, hb, fun j u hu => ?_⟩
  have e : (prs (l.eraseIdx 0))[j]? = (prs l)[2 + j]? := by
    cases l with
    | nil => simp at hl
    | cons x l => 
      have e1 : prs (x :: l) = str x.1 :: .bool x.2 :: prs l := rfl
      rw [e1, Nat.add_comm 2 j]
      rfl
  rw [e] at hu
  have := hc _ _ hu
  rw [← Addr.add_add] at this
  simpa [Addr.add] using this
set_option maxRecDepth 100000 in
set_option maxHeartbeats 8000000 in
theorem rput0_few (A0 A1 : Option Addr) (c0 c1 : Nat) (a b : Way) (p : Pk) (w : World) (h0 : RS w (.slice A0 a.l.length c0) a.l) (hl : a.l.length < 16) :
    Calls Try.prog 21 #[.agg (stC (.slice A0 a.l.length c0) (.slice A1 b.l.length c1) a b), .int .i64 0, .agg #[str p.1, .bool p.2]] w fun e w' => ∃ A' c', e = .returned (.agg (stC (.slice A' (a.l ++ [p]).length c') (.slice A1 b.l.length c1) a b)) ∧
      RO w' w.heap.size (.slice A' (a.l ++ [p]).length c') (a.l ++ [p]) ∧ Gr w w' := by
  have B0 := ((Blk.new w 40 (stC (.slice A0 a.l.length c0) (.slice A1 b.l.length c1) a b)).alloc (.cells #[str p.1, .bool p.2] 60)).alloc (.cells stZ 40)
  have P0 := (Blk.new (w.alloc (.cells (stC (.slice A0 a.l.length c0) (.slice A1 b.l.length c1) a b) 40)) 60 #[str p.1, .bool p.2]).alloc (.cells stZ 40)
  have Z0 := Blk.new ((w.alloc (.cells (stC (.slice A0 a.l.length c0) (.slice A1 b.l.length c1) a b) 40)).alloc (.cells #[str p.1, .bool p.2] 60)) 40 stZ
  have G0 := (((Gr.refl w).alloc (.cells (stC (.slice A0 a.l.length c0) (.slice A1 b.l.length c1) a b) 40)).alloc (.cells #[str p.1, .bool p.2] 60)).alloc (.cells stZ 40)
  have s0 : (((w.alloc (.cells (stC (.slice A0 a.l.length c0) (.slice A1 b.l.length c1) a b) 40)).alloc (.cells #[str p.1, .bool p.2] 60)).alloc (.cells stZ 40)).heap.size = w.heap.size + 1 + 1 + 1 := by simp
  rw [World.size_alloc] at P0 Z0
  rw [World.size_alloc] at Z0
  replace B0 := Lib.hid B0
  replace P0 := Lib.hid P0
  replace Z0 := Lib.hid Z0
  replace G0 := Lib.hid G0
  replace s0 := Lib.hid s0
  replace h0 := Lib.hid h0
  go_enter Try.func21, Try.ntmps21
  go_wp2
  generalize hW : (((w.alloc (.cells (stC (.slice A0 a.l.length c0) (.slice A1 b.l.length c1) a b) 40)).alloc (.cells #[str p.1, .bool p.2] 60)).alloc (.cells stZ 40)) = W at B0 P0 Z0 G0 s0 ⊢
  have cB := B0.out.cell 0
  have l0 := B0.out.lt
  have l1 := P0.out.lt
  have e0 := P0.out.cell 0
  have e1 := P0.out.cell 1
  obtain ⟨_, _, hv, hc1, hc2, hrd⟩ := h0.out
  injection hv with hv1 hv2 hv3
  subst hv1
  subst hv3
  have lw : w.heap.size ≤ W.heap.size := G0.out.size
  have rW : Reads W W.heap.size 2 A0 a.l.length (prs a.l) := Reads.more (Reads.below hrd G0.out) lw
  have gA := (Gr.refl W).alloc (.cells #[] 60)
  have gB := ((Gr.refl W).alloc (.cells #[] 60)).alloc (.cells #[str p.1, .bool p.2] 60)
  have gC := ((Gr.refl W).alloc (.cells #[str p.1, .bool p.2] 60)).alloc (.cells #[] 60)
  have rA := Lib.hid (Reads.below rW gA)
  have rB := Lib.hid (Reads.below rW gB)
  have rC := Lib.hid (Reads.below rW gC)
  have oA := Lib.hid (or_made 60 2 W W.heap.size (Nat.le_refl _))
  have oB := Lib.hid (OR.below oA.out ((Gr.refl (W.alloc (.cells #[] 60))).alloc (.cells #[str p.1, .bool p.2] 60)))
  have oC := or_made 60 2 (W.alloc (.cells #[str p.1, .bool p.2] 60)) W.heap.size (by simp)
  rw [World.size_alloc] at oC
  replace oC := Lib.hid oC
  have nB := new1p (W.alloc (.cells #[] 60)) p
  rw [World.size_alloc] at nB
  replace nB := Lib.hid nB
  have nC := Lib.hid (Reads.more (B' := W.heap.size + 1 + 1) (Reads.below (new1p W p) (Below.mono ((Gr.refl (W.alloc (.cells #[str p.1, .bool p.2] 60))).alloc (.cells #[] 60)) (by simp))) (by omega))
  replace gA := Lib.hid gA
  replace gB := Lib.hid gB
  replace gC := Lib.hid gC
  clear rW hv2 hrd
  go_region_law (first
    | (refine step_append_empty (base := W.heap.size) rfl (.tmp 29) (.tmp 33) 36 rfl Try.underlying36 rpRow rfl (by first | exact oA.out | exact oB.out | exact oC.out) W.heap.size A0 a.l.length c0 (prs a.l) rfl (by first | exact rA.out | exact rB.out | exact rC.out) (prs_one_cell _) (by unfold maxLen; omega) (by omega) (by first | exact gA.out.size | exact gB.out.size | exact gC.out.size) ?_; intro A8 c8 w8 o8 g8; have g8' := gr_drew g8; have G8 : Gr W w8 := (by first | exact gA.out.trans g8' | exact gB.out.trans g8' | exact gC.out.trans g8'); replace e0 := (G8.cell (p := ⟨w.heap.size + 1, 0, none⟩) P0.out.lt).trans e0; replace e1 := (G8.cell (p := ⟨w.heap.size + 1, 1, none⟩) P0.out.lt).trans e1; replace o8 := Lib.hid o8; replace G8 := Lib.hid G8; replace g8 := Lib.hid g8'; clear g8')
    | (refine step_append_rows (base := W.heap.size) (n := a.l.length) (xs := prs a.l) rfl (.tmp 34) (.tmp 36) 36 rfl Try.underlying36 rpRow rfl (by first | exact o8.out | exact OR.below o8.out ((Gr.refl w8).alloc _)) _ _ 1 1 (prs [p]) rfl (by first | exact new1p w8 p | exact Reads.below nB.out (Below.mono g8.out (by simp)) | exact Reads.below nC.out (Below.mono g8.out (by simp))) (prs_one_cell _) (by unfold maxLen; omega) (by omega) (by first | exact G8.out.size | exact Nat.le_trans G8.out.size ((Gr.refl w8).alloc _).size) (prs (a.l ++ [p])) (prs_append _ _) (a.l.length + 1) rfl ?_; intro A9 c9 w9 o9 g9; have G9 : Gr W w9 := (by first | exact Below.trans G8.out g9 | exact Below.trans (G8.out.trans ((Gr.refl w8).alloc _)) g9); have B9 := blk_more B0.out G9; have f9 := B9.frozen 0; have d9 := B9.cell 0; replace o9 := Lib.hid o9; replace G9 := Lib.hid G9; replace B9 := Lib.hid B9; clear e0 e1 g9 G8 g8 o8))
  all_goals
    have Z9 := (blk_more Z0.out G9.out).far (p := ⟨w.heap.size, 0, none⟩) (show w.heap.size + 1 + 1 ≠ w.heap.size by omega) (.slice A9 (a.l.length + 1) c9)
    have N9 : Blk (w9.setCell ⟨w.heap.size, 0, none⟩ (.slice A9 (a.l.length + 1) c9)) w.heap.size 40 (stC (.slice A9 (a.l.length + 1) c9) (.slice A1 b.l.length c1) a b) := B9.out.set_ 0 _
    have K9 : Kb w.heap.size w9 (w9.setCell ⟨w.heap.size, 0, none⟩ (.slice A9 (a.l.length + 1) c9)) := (Kb.refl _ _).set 0 _
    have O9 := Lib.hid (or_kbE o9.out K9 l0)
    have H9 := Lib.hid (keep_at (G0.out.trans G9.out) K9 (Nat.le_refl _) (by have := G9.out.size; omega))
    have z9 := Lib.hid Z9.lt
    replace Z9 := Lib.hid Z9
    replace N9 := Lib.hid N9
    clear K9 o9 G9 B9 f9 d9
    go_wp2_with (first
      | ((with_reducible refine wpList_isLoad 40 (.tmp 3) rfl ?_); refine wpList_load_row rfl 40 (.tmp 3) rfl w.heap.size rfl 40 _ (0, 0) _ N9.out Try.underlying40 rfl (stInfo _ _ _ _ _ _) ?_)
      | ((with_reducible refine wpList_isStore 40 (.tmp 6) (.tmp 40) rfl ?_); refine wpList_store_blk rfl 40 (.tmp 6) (.tmp 40) rfl (w.heap.size + 1 + 1) _ rfl rfl 40 stZ Z9.out (stInfo _ _ _ _ _ _) rfl (by simp [Value.oneCell']) ?_; intro w10 n10 k10 z10; replace n10 := Lib.hid n10; replace k10 := Lib.hid k10; replace z10 := Lib.hid z10))
    refine bodyPost_ret (results_cell_row Try.results21 _ _ (w.heap.size + 1 + 1) 40 _ (0, 0) _ rfl n10.out Try.underlying40 rfl (stInfo _ _ _ _ _ _)) rfl ?_
    have hap : (a.l ++ [p]).length = a.l.length + 1 := by simp
    have O10 := or_kbE O9.out k10.out (by have := s0.out; omega)
    rw [hap]
    exact ⟨A9, c9, rfl, RO.low (base := W.heap.size) (by unfold RO; rw [hap]; exact O10) lw, keep_at H9.out k10.out (by omega) (Nat.le_of_lt z9.out)⟩
set_option maxRecDepth 100000 in
set_option maxHeartbeats 8000000 in
theorem rput0_full (ad : Addr) (A1 : Option Addr) (c0 c1 : Nat) (a b : Way) (p : Pk) (w : World) (h0 : RS w (.slice (some ad) a.l.length c0) a.l) (hl1 : 16 ≤ a.l.length) (hl2 : a.l.length ≤ 16) (hx : a.x < 1000000000000) (a1 : Way) (ha1 : a1 = ⟨a.l.eraseIdx 0, a.s, a.x + 1⟩) :
    Calls Try.prog 21 #[.agg (stC (.slice (some ad) a.l.length c0) (.slice A1 b.l.length c1) a b), .int .i64 0, .agg #[str p.1, .bool p.2]] w fun e w' => ∃ A' c', e = .returned (.agg (stC (.slice A' (a1.l ++ [p]).length c') (.slice A1 b.l.length c1) a1 b)) ∧
      RO w' w.heap.size (.slice A' (a1.l ++ [p]).length c') (a1.l ++ [p]) ∧ Gr w w' := by
  have hci : ((a.l.length : Int) == 16) = true := by simp; omega
  have h0' := rs_tail h0 (by omega)
  have hc16 : 16 ≤ c0 := by
    obtain ⟨_, _, hv, q1, _⟩ := h0
    injection hv with _ _ hv
    omega
  have hc1 : ¬ (c0 = 1) := by omega
  have hxw : (a.x : Int) + 1 ≤ 1000000000000 := by omega
  have hxn : -1000 ≤ (a.x : Int) := by omega
  have hl3 : (1 : Int) ≤ (a.l.length : Int) := by omega
  have hl : a1.l.length < 16 := by rw [ha1]; show (a.l.eraseIdx 0).length < 16; rw [List.length_eraseIdx]; split <;> omega
  have he : a.l.length - 1 = a1.l.length := by rw [ha1]; show _ = (a.l.eraseIdx 0).length; rw [List.length_eraseIdx, if_pos (by omega)]
  have hxe : (a.x : Int) + 1 = (a1.x : Int) := by rw [ha1]; rfl
  have hse : (a.s : Int) = (a1.s : Int) := by rw [ha1]
  rw [he] at h0'
  rw [show a.l.eraseIdx 0 = a1.l by rw [ha1]] at h0'
  replace h0 := Lib.hid h0'
  replace ha1 := Lib.hid ha1
  replace he := Lib.hid he
  replace hxe := Lib.hid hxe
  replace hse := Lib.hid hse
  clear h0'
  go_enter Try.func21, Try.ntmps21
  go_wp2
  obtain ⟨A0, hA0⟩ : ∃ A0 : Option Addr, A0 = some ⟨ad.block, ad.off + 2, none⟩ := ⟨_, rfl⟩
  obtain ⟨c2, hc2e⟩ : ∃ c2, c2 = c0 - 1 := ⟨_, rfl⟩
  have hCC : (#[.slice (some ⟨ad.block, ad.off + 2, none⟩) (a.l.length - 1) (c0 - 1), .slice A1 b.l.length c1, .int .i64 (a.s : Int), .int .i64 (b.s : Int), .int .i64 ((a.x : Int) + 1), .int .i64 (b.x : Int)] : Array Value) = stC (.slice A0 a1.l.length c2) (.slice A1 b.l.length c1) a1 b := by rw [hA0, hc2e]; unfold stC; rw [he.out, hxe.out, hse.out]
  rw [← hA0, ← hc2e] at h0
  generalize hW : (((w.alloc (.cells (#[.slice (some ⟨ad.block, ad.off + 2, none⟩) (a.l.length - 1) (c0 - 1), .slice A1 b.l.length c1, .int .i64 (a.s : Int), .int .i64 (b.s : Int), .int .i64 ((a.x : Int) + 1), .int .i64 (b.x : Int)]) 40)).alloc (.cells #[str p.1, .bool p.2] 60)).alloc (.cells stZ 40)) = W
  rw [hCC] at hW
  have B0 : Blk W w.heap.size 40 (stC (.slice A0 a1.l.length c2) (.slice A1 b.l.length c1) a1 b) := by rw [← hW]; exact ((Blk.new w _ _).alloc _).alloc _
  have P0 : Blk W (w.heap.size + 1) 60 #[str p.1, .bool p.2] := by
    rw [← hW]
    have := (Blk.new (w.alloc (.cells (stC (.slice A0 a1.l.length c2) (.slice A1 b.l.length c1) a1 b) 40)) 60 #[str p.1, .bool p.2]).alloc (.cells stZ 40)
    rwa [World.size_alloc] at this
  have Z0 : Blk W (w.heap.size + 1 + 1) 40 stZ := by
    rw [← hW]
    have := Blk.new ((w.alloc (.cells (stC (.slice A0 a1.l.length c2) (.slice A1 b.l.length c1) a1 b) 40)).alloc (.cells #[str p.1, .bool p.2] 60)) 40 stZ
    rwa [World.size_alloc, World.size_alloc] at this
  have G0 : Gr w W := by rw [← hW]; exact (((Gr.refl w).alloc _).alloc _).alloc _
  have s0 : W.heap.size = w.heap.size + 1 + 1 + 1 := by rw [← hW]; simp
  replace B0 := Lib.hid B0
  replace P0 := Lib.hid P0
  replace Z0 := Lib.hid Z0
  replace G0 := Lib.hid G0
  replace s0 := Lib.hid s0
  clear hW hCC hA0 hc2e hc1 hl1 hl2
  have cB := B0.out.cell 0
  have l0 := B0.out.lt
  have l1 := P0.out.lt
  have e0 := P0.out.cell 0
  have e1 := P0.out.cell 1
  obtain ⟨_, _, hv, hc1, hc2, hrd⟩ := h0.out
  injection hv with hv1 hv2 hv3
  subst hv1
  subst hv3
  have lw : w.heap.size ≤ W.heap.size := G0.out.size
  have rW : Reads W W.heap.size 2 A0 a1.l.length (prs a1.l) := Reads.more (Reads.below hrd G0.out) lw
  have gA := (Gr.refl W).alloc (.cells #[] 60)
  have gB := ((Gr.refl W).alloc (.cells #[] 60)).alloc (.cells #[str p.1, .bool p.2] 60)
  have gC := ((Gr.refl W).alloc (.cells #[str p.1, .bool p.2] 60)).alloc (.cells #[] 60)
  have rA := Lib.hid (Reads.below rW gA)
  have rB := Lib.hid (Reads.below rW gB)
  have rC := Lib.hid (Reads.below rW gC)
  have oA := Lib.hid (or_made 60 2 W W.heap.size (Nat.le_refl _))
  have oB := Lib.hid (OR.below oA.out ((Gr.refl (W.alloc (.cells #[] 60))).alloc (.cells #[str p.1, .bool p.2] 60)))
  have oC := or_made 60 2 (W.alloc (.cells #[str p.1, .bool p.2] 60)) W.heap.size (by simp)
  rw [World.size_alloc] at oC
  replace oC := Lib.hid oC
  have nB := new1p (W.alloc (.cells #[] 60)) p
  rw [World.size_alloc] at nB
  replace nB := Lib.hid nB
  have nC := Lib.hid (Reads.more (B' := W.heap.size + 1 + 1) (Reads.below (new1p W p) (Below.mono ((Gr.refl (W.alloc (.cells #[str p.1, .bool p.2] 60))).alloc (.cells #[] 60)) (by simp))) (by omega))
  replace gA := Lib.hid gA
  replace gB := Lib.hid gB
  replace gC := Lib.hid gC
  clear rW hv2 hrd
  go_region_law (first
    | (refine step_append_empty (base := W.heap.size) rfl (.tmp 29) (.tmp 33) 36 rfl Try.underlying36 rpRow rfl (by first | exact oA.out | exact oB.out | exact oC.out) W.heap.size A0 a1.l.length c2 (prs a1.l) rfl (by first | exact rA.out | exact rB.out | exact rC.out) (prs_one_cell _) (by unfold maxLen; omega) (by omega) (by first | exact gA.out.size | exact gB.out.size | exact gC.out.size) ?_; intro A8 c8 w8 o8 g8; have g8' := gr_drew g8; have G8 : Gr W w8 := (by first | exact gA.out.trans g8' | exact gB.out.trans g8' | exact gC.out.trans g8'); replace e0 := (G8.cell (p := ⟨w.heap.size + 1, 0, none⟩) P0.out.lt).trans e0; replace e1 := (G8.cell (p := ⟨w.heap.size + 1, 1, none⟩) P0.out.lt).trans e1; replace o8 := Lib.hid o8; replace G8 := Lib.hid G8; replace g8 := Lib.hid g8'; clear g8')
    | (refine step_append_rows (base := W.heap.size) (n := a1.l.length) (xs := prs a1.l) rfl (.tmp 34) (.tmp 36) 36 rfl Try.underlying36 rpRow rfl (by first | exact o8.out | exact OR.below o8.out ((Gr.refl w8).alloc _)) _ _ 1 1 (prs [p]) rfl (by first | exact new1p w8 p | exact Reads.below nB.out (Below.mono g8.out (by simp)) | exact Reads.below nC.out (Below.mono g8.out (by simp))) (prs_one_cell _) (by unfold maxLen; omega) (by omega) (by first | exact G8.out.size | exact Nat.le_trans G8.out.size ((Gr.refl w8).alloc _).size) (prs (a1.l ++ [p])) (prs_append _ _) (a1.l.length + 1) rfl ?_; intro A9 c9 w9 o9 g9; have G9 : Gr W w9 := (by first | exact Below.trans G8.out g9 | exact Below.trans (G8.out.trans ((Gr.refl w8).alloc _)) g9); have B9 := blk_more B0.out G9; have f9 := B9.frozen 0; have d9 := B9.cell 0; replace o9 := Lib.hid o9; replace G9 := Lib.hid G9; replace B9 := Lib.hid B9; clear e0 e1 g9 G8 g8 o8))
  all_goals
    have Z9 := (blk_more Z0.out G9.out).far (p := ⟨w.heap.size, 0, none⟩) (show w.heap.size + 1 + 1 ≠ w.heap.size by omega) (.slice A9 (a1.l.length + 1) c9)
    have N9 : Blk (w9.setCell ⟨w.heap.size, 0, none⟩ (.slice A9 (a1.l.length + 1) c9)) w.heap.size 40 (stC (.slice A9 (a1.l.length + 1) c9) (.slice A1 b.l.length c1) a1 b) := B9.out.set_ 0 _
    have K9 : Kb w.heap.size w9 (w9.setCell ⟨w.heap.size, 0, none⟩ (.slice A9 (a1.l.length + 1) c9)) := (Kb.refl _ _).set 0 _
    have O9 := Lib.hid (or_kbE o9.out K9 l0)
    have H9 := Lib.hid (keep_at (G0.out.trans G9.out) K9 (Nat.le_refl _) (by have := G9.out.size; omega))
    have z9 := Lib.hid Z9.lt
    replace Z9 := Lib.hid Z9
    replace N9 := Lib.hid N9
    clear K9 o9 G9 B9 f9 d9
    go_wp2_with (first
      | ((with_reducible refine wpList_isLoad 40 (.tmp 3) rfl ?_); refine wpList_load_row rfl 40 (.tmp 3) rfl w.heap.size rfl 40 _ (0, 0) _ N9.out Try.underlying40 rfl (stInfo _ _ _ _ _ _) ?_)
      | ((with_reducible refine wpList_isStore 40 (.tmp 6) (.tmp 40) rfl ?_); refine wpList_store_blk rfl 40 (.tmp 6) (.tmp 40) rfl (w.heap.size + 1 + 1) _ rfl rfl 40 stZ Z9.out (stInfo _ _ _ _ _ _) rfl (by simp [Value.oneCell']) ?_; intro w10 n10 k10 z10; replace n10 := Lib.hid n10; replace k10 := Lib.hid k10; replace z10 := Lib.hid z10))
    refine bodyPost_ret (results_cell_row Try.results21 _ _ (w.heap.size + 1 + 1) 40 _ (0, 0) _ rfl n10.out Try.underlying40 rfl (stInfo _ _ _ _ _ _)) rfl ?_
    have hap : (a1.l ++ [p]).length = a1.l.length + 1 := by simp
    have O10 := or_kbE O9.out k10.out (by have := s0.out; omega)
    rw [hap]
    exact ⟨A9, c9, rfl, RO.low (base := W.heap.size) (by unfold RO; rw [hap]; exact O10) lw, keep_at H9.out k10.out (by omega) (Nat.le_of_lt z9.out)⟩
set_option maxRecDepth 100000 in
set_option maxHeartbeats 8000000 in
theorem rput1_few (A0 A1 : Option Addr) (c0 c1 : Nat) (a b : Way) (p : Pk) (w : World) (h0 : RS w (.slice A0 a.l.length c0) a.l) (hl : a.l.length < 16) :
    Calls Try.prog 21 #[.agg (stC (.slice A1 b.l.length c1) (.slice A0 a.l.length c0) b a), .int .i64 1, .agg #[str p.1, .bool p.2]] w fun e w' => ∃ A' c', e = .returned (.agg (stC (.slice A1 b.l.length c1) (.slice A' (a.l ++ [p]).length c') b a)) ∧
      RO w' w.heap.size (.slice A' (a.l ++ [p]).length c') (a.l ++ [p]) ∧ Gr w w' := by
  have B0 := ((Blk.new w 40 (stC (.slice A1 b.l.length c1) (.slice A0 a.l.length c0) b a)).alloc (.cells #[str p.1, .bool p.2] 60)).alloc (.cells stZ 40)
  have P0 := (Blk.new (w.alloc (.cells (stC (.slice A1 b.l.length c1) (.slice A0 a.l.length c0) b a) 40)) 60 #[str p.1, .bool p.2]).alloc (.cells stZ 40)
  have Z0 := Blk.new ((w.alloc (.cells (stC (.slice A1 b.l.length c1) (.slice A0 a.l.length c0) b a) 40)).alloc (.cells #[str p.1, .bool p.2] 60)) 40 stZ
  have G0 := (((Gr.refl w).alloc (.cells (stC (.slice A1 b.l.length c1) (.slice A0 a.l.length c0) b a) 40)).alloc (.cells #[str p.1, .bool p.2] 60)).alloc (.cells stZ 40)
  have s0 : (((w.alloc (.cells (stC (.slice A1 b.l.length c1) (.slice A0 a.l.length c0) b a) 40)).alloc (.cells #[str p.1, .bool p.2] 60)).alloc (.cells stZ 40)).heap.size = w.heap.size + 1 + 1 + 1 := by simp
  rw [World.size_alloc] at P0 Z0
  rw [World.size_alloc] at Z0
  replace B0 := Lib.hid B0
  replace P0 := Lib.hid P0
  replace Z0 := Lib.hid Z0
  replace G0 := Lib.hid G0
  replace s0 := Lib.hid s0
  replace h0 := Lib.hid h0
  go_enter Try.func21, Try.ntmps21
  go_wp2
  generalize hW : (((w.alloc (.cells (stC (.slice A1 b.l.length c1) (.slice A0 a.l.length c0) b a) 40)).alloc (.cells #[str p.1, .bool p.2] 60)).alloc (.cells stZ 40)) = W at B0 P0 Z0 G0 s0 ⊢
  have cB := B0.out.cell 1
  have l0 := B0.out.lt
  have l1 := P0.out.lt
  have e0 := P0.out.cell 0
  have e1 := P0.out.cell 1
  obtain ⟨_, _, hv, hc1, hc2, hrd⟩ := h0.out
  injection hv with hv1 hv2 hv3
  subst hv1
  subst hv3
  have lw : w.heap.size ≤ W.heap.size := G0.out.size
  have rW : Reads W W.heap.size 2 A0 a.l.length (prs a.l) := Reads.more (Reads.below hrd G0.out) lw
  have gA := (Gr.refl W).alloc (.cells #[] 60)
  have gB := ((Gr.refl W).alloc (.cells #[] 60)).alloc (.cells #[str p.1, .bool p.2] 60)
  have gC := ((Gr.refl W).alloc (.cells #[str p.1, .bool p.2] 60)).alloc (.cells #[] 60)
  have rA := Lib.hid (Reads.below rW gA)
  have rB := Lib.hid (Reads.below rW gB)
  have rC := Lib.hid (Reads.below rW gC)
  have oA := Lib.hid (or_made 60 2 W W.heap.size (Nat.le_refl _))
  have oB := Lib.hid (OR.below oA.out ((Gr.refl (W.alloc (.cells #[] 60))).alloc (.cells #[str p.1, .bool p.2] 60)))
  have oC := or_made 60 2 (W.alloc (.cells #[str p.1, .bool p.2] 60)) W.heap.size (by simp)
  rw [World.size_alloc] at oC
  replace oC := Lib.hid oC
  have nB := new1p (W.alloc (.cells #[] 60)) p
  rw [World.size_alloc] at nB
  replace nB := Lib.hid nB
  have nC := Lib.hid (Reads.more (B' := W.heap.size + 1 + 1) (Reads.below (new1p W p) (Below.mono ((Gr.refl (W.alloc (.cells #[str p.1, .bool p.2] 60))).alloc (.cells #[] 60)) (by simp))) (by omega))
  replace gA := Lib.hid gA
  replace gB := Lib.hid gB
  replace gC := Lib.hid gC
  clear rW hv2 hrd
  go_region_law (first
    | (refine step_append_empty (base := W.heap.size) rfl (.tmp 29) (.tmp 33) 36 rfl Try.underlying36 rpRow rfl (by first | exact oA.out | exact oB.out | exact oC.out) W.heap.size A0 a.l.length c0 (prs a.l) rfl (by first | exact rA.out | exact rB.out | exact rC.out) (prs_one_cell _) (by unfold maxLen; omega) (by omega) (by first | exact gA.out.size | exact gB.out.size | exact gC.out.size) ?_; intro A8 c8 w8 o8 g8; have g8' := gr_drew g8; have G8 : Gr W w8 := (by first | exact gA.out.trans g8' | exact gB.out.trans g8' | exact gC.out.trans g8'); replace e0 := (G8.cell (p := ⟨w.heap.size + 1, 0, none⟩) P0.out.lt).trans e0; replace e1 := (G8.cell (p := ⟨w.heap.size + 1, 1, none⟩) P0.out.lt).trans e1; replace o8 := Lib.hid o8; replace G8 := Lib.hid G8; replace g8 := Lib.hid g8'; clear g8')
    | (refine step_append_rows (base := W.heap.size) (n := a.l.length) (xs := prs a.l) rfl (.tmp 34) (.tmp 36) 36 rfl Try.underlying36 rpRow rfl (by first | exact o8.out | exact OR.below o8.out ((Gr.refl w8).alloc _)) _ _ 1 1 (prs [p]) rfl (by first | exact new1p w8 p | exact Reads.below nB.out (Below.mono g8.out (by simp)) | exact Reads.below nC.out (Below.mono g8.out (by simp))) (prs_one_cell _) (by unfold maxLen; omega) (by omega) (by first | exact G8.out.size | exact Nat.le_trans G8.out.size ((Gr.refl w8).alloc _).size) (prs (a.l ++ [p])) (prs_append _ _) (a.l.length + 1) rfl ?_; intro A9 c9 w9 o9 g9; have G9 : Gr W w9 := (by first | exact Below.trans G8.out g9 | exact Below.trans (G8.out.trans ((Gr.refl w8).alloc _)) g9); have B9 := blk_more B0.out G9; have f9 := B9.frozen 1; have d9 := B9.cell 1; replace o9 := Lib.hid o9; replace G9 := Lib.hid G9; replace B9 := Lib.hid B9; clear e0 e1 g9 G8 g8 o8))
  all_goals
    have Z9 := (blk_more Z0.out G9.out).far (p := ⟨w.heap.size, 1, none⟩) (show w.heap.size + 1 + 1 ≠ w.heap.size by omega) (.slice A9 (a.l.length + 1) c9)
    have N9 : Blk (w9.setCell ⟨w.heap.size, 1, none⟩ (.slice A9 (a.l.length + 1) c9)) w.heap.size 40 (stC (.slice A1 b.l.length c1) (.slice A9 (a.l.length + 1) c9) b a) := B9.out.set_ 1 _
    have K9 : Kb w.heap.size w9 (w9.setCell ⟨w.heap.size, 1, none⟩ (.slice A9 (a.l.length + 1) c9)) := (Kb.refl _ _).set 1 _
    have O9 := Lib.hid (or_kbE o9.out K9 l0)
    have H9 := Lib.hid (keep_at (G0.out.trans G9.out) K9 (Nat.le_refl _) (by have := G9.out.size; omega))
    have z9 := Lib.hid Z9.lt
    replace Z9 := Lib.hid Z9
    replace N9 := Lib.hid N9
    clear K9 o9 G9 B9 f9 d9
    go_wp2_with (first
      | ((with_reducible refine wpList_isLoad 40 (.tmp 3) rfl ?_); refine wpList_load_row rfl 40 (.tmp 3) rfl w.heap.size rfl 40 _ (0, 0) _ N9.out Try.underlying40 rfl (stInfo _ _ _ _ _ _) ?_)
      | ((with_reducible refine wpList_isStore 40 (.tmp 6) (.tmp 40) rfl ?_); refine wpList_store_blk rfl 40 (.tmp 6) (.tmp 40) rfl (w.heap.size + 1 + 1) _ rfl rfl 40 stZ Z9.out (stInfo _ _ _ _ _ _) rfl (by simp [Value.oneCell']) ?_; intro w10 n10 k10 z10; replace n10 := Lib.hid n10; replace k10 := Lib.hid k10; replace z10 := Lib.hid z10))
    refine bodyPost_ret (results_cell_row Try.results21 _ _ (w.heap.size + 1 + 1) 40 _ (0, 0) _ rfl n10.out Try.underlying40 rfl (stInfo _ _ _ _ _ _)) rfl ?_
    have hap : (a.l ++ [p]).length = a.l.length + 1 := by simp
    have O10 := or_kbE O9.out k10.out (by have := s0.out; omega)
    rw [hap]
    exact ⟨A9, c9, rfl, RO.low (base := W.heap.size) (by unfold RO; rw [hap]; exact O10) lw, keep_at H9.out k10.out (by omega) (Nat.le_of_lt z9.out)⟩
set_option maxRecDepth 100000 in
set_option maxHeartbeats 8000000 in
theorem rput1_full (ad : Addr) (A1 : Option Addr) (c0 c1 : Nat) (a b : Way) (p : Pk) (w : World) (h0 : RS w (.slice (some ad) a.l.length c0) a.l) (hl1 : 16 ≤ a.l.length) (hl2 : a.l.length ≤ 16) (hx : a.x < 1000000000000) (a1 : Way) (ha1 : a1 = ⟨a.l.eraseIdx 0, a.s, a.x + 1⟩) :
    Calls Try.prog 21 #[.agg (stC (.slice A1 b.l.length c1) (.slice (some ad) a.l.length c0) b a), .int .i64 1, .agg #[str p.1, .bool p.2]] w fun e w' => ∃ A' c', e = .returned (.agg (stC (.slice A1 b.l.length c1) (.slice A' (a1.l ++ [p]).length c') b a1)) ∧
      RO w' w.heap.size (.slice A' (a1.l ++ [p]).length c') (a1.l ++ [p]) ∧ Gr w w' := by
  have hci : ((a.l.length : Int) == 16) = true := by simp; omega
  have h0' := rs_tail h0 (by omega)
  have hc16 : 16 ≤ c0 := by
    obtain ⟨_, _, hv, q1, _⟩ := h0
    injection hv with _ _ hv
    omega
  have hc1 : ¬ (c0 = 1) := by omega
  have hxw : (a.x : Int) + 1 ≤ 1000000000000 := by omega
  have hxn : -1000 ≤ (a.x : Int) := by omega
  have hl3 : (1 : Int) ≤ (a.l.length : Int) := by omega
  have hl : a1.l.length < 16 := by rw [ha1]; show (a.l.eraseIdx 0).length < 16; rw [List.length_eraseIdx]; split <;> omega
  have he : a.l.length - 1 = a1.l.length := by rw [ha1]; show _ = (a.l.eraseIdx 0).length; rw [List.length_eraseIdx, if_pos (by omega)]
  have hxe : (a.x : Int) + 1 = (a1.x : Int) := by rw [ha1]; rfl
  have hse : (a.s : Int) = (a1.s : Int) := by rw [ha1]
  rw [he] at h0'
  rw [show a.l.eraseIdx 0 = a1.l by rw [ha1]] at h0'
  replace h0 := Lib.hid h0'
  replace ha1 := Lib.hid ha1
  replace he := Lib.hid he
  replace hxe := Lib.hid hxe
  replace hse := Lib.hid hse
  clear h0'
  go_enter Try.func21, Try.ntmps21
  go_wp2
  obtain ⟨A0, hA0⟩ : ∃ A0 : Option Addr, A0 = some ⟨ad.block, ad.off + 2, none⟩ := ⟨_, rfl⟩
  obtain ⟨c2, hc2e⟩ : ∃ c2, c2 = c0 - 1 := ⟨_, rfl⟩
  have hCC : (#[.slice A1 b.l.length c1, .slice (some ⟨ad.block, ad.off + 2, none⟩) (a.l.length - 1) (c0 - 1), .int .i64 (b.s : Int), .int .i64 (a.s : Int), .int .i64 (b.x : Int), .int .i64 ((a.x : Int) + 1)] : Array Value) = stC (.slice A1 b.l.length c1) (.slice A0 a1.l.length c2) b a1 := by rw [hA0, hc2e]; unfold stC; rw [he.out, hxe.out, hse.out]
  rw [← hA0, ← hc2e] at h0
  generalize hW : (((w.alloc (.cells (#[.slice A1 b.l.length c1, .slice (some ⟨ad.block, ad.off + 2, none⟩) (a.l.length - 1) (c0 - 1), .int .i64 (b.s : Int), .int .i64 (a.s : Int), .int .i64 (b.x : Int), .int .i64 ((a.x : Int) + 1)]) 40)).alloc (.cells #[str p.1, .bool p.2] 60)).alloc (.cells stZ 40)) = W
  rw [hCC] at hW
  have B0 : Blk W w.heap.size 40 (stC (.slice A1 b.l.length c1) (.slice A0 a1.l.length c2) b a1) := by rw [← hW]; exact ((Blk.new w _ _).alloc _).alloc _
  have P0 : Blk W (w.heap.size + 1) 60 #[str p.1, .bool p.2] := by
    rw [← hW]
    have := (Blk.new (w.alloc (.cells (stC (.slice A1 b.l.length c1) (.slice A0 a1.l.length c2) b a1) 40)) 60 #[str p.1, .bool p.2]).alloc (.cells stZ 40)
    rwa [World.size_alloc] at this
  have Z0 : Blk W (w.heap.size + 1 + 1) 40 stZ := by
    rw [← hW]
    have := Blk.new ((w.alloc (.cells (stC (.slice A1 b.l.length c1) (.slice A0 a1.l.length c2) b a1) 40)).alloc (.cells #[str p.1, .bool p.2] 60)) 40 stZ
    rwa [World.size_alloc, World.size_alloc] at this
  have G0 : Gr w W := by rw [← hW]; exact (((Gr.refl w).alloc _).alloc _).alloc _
  have s0 : W.heap.size = w.heap.size + 1 + 1 + 1 := by rw [← hW]; simp
  replace B0 := Lib.hid B0
  replace P0 := Lib.hid P0
  replace Z0 := Lib.hid Z0
  replace G0 := Lib.hid G0
  replace s0 := Lib.hid s0
  clear hW hCC hA0 hc2e hc1 hl1 hl2
  have cB := B0.out.cell 1
  have l0 := B0.out.lt
  have l1 := P0.out.lt
  have e0 := P0.out.cell 0
  have e1 := P0.out.cell 1
  obtain ⟨_, _, hv, hc1, hc2, hrd⟩ := h0.out
  injection hv with hv1 hv2 hv3
  subst hv1
  subst hv3
  have lw : w.heap.size ≤ W.heap.size := G0.out.size
  have rW : Reads W W.heap.size 2 A0 a1.l.length (prs a1.l) := Reads.more (Reads.below hrd G0.out) lw
  have gA := (Gr.refl W).alloc (.cells #[] 60)
  have gB := ((Gr.refl W).alloc (.cells #[] 60)).alloc (.cells #[str p.1, .bool p.2] 60)
  have gC := ((Gr.refl W).alloc (.cells #[str p.1, .bool p.2] 60)).alloc (.cells #[] 60)
  have rA := Lib.hid (Reads.below rW gA)
  have rB := Lib.hid (Reads.below rW gB)
  have rC := Lib.hid (Reads.below rW gC)
  have oA := Lib.hid (or_made 60 2 W W.heap.size (Nat.le_refl _))
  have oB := Lib.hid (OR.below oA.out ((Gr.refl (W.alloc (.cells #[] 60))).alloc (.cells #[str p.1, .bool p.2] 60)))
  have oC := or_made 60 2 (W.alloc (.cells #[str p.1, .bool p.2] 60)) W.heap.size (by simp)
  rw [World.size_alloc] at oC
  replace oC := Lib.hid oC
  have nB := new1p (W.alloc (.cells #[] 60)) p
  rw [World.size_alloc] at nB
  replace nB := Lib.hid nB
  have nC := Lib.hid (Reads.more (B' := W.heap.size + 1 + 1) (Reads.below (new1p W p) (Below.mono ((Gr.refl (W.alloc (.cells #[str p.1, .bool p.2] 60))).alloc (.cells #[] 60)) (by simp))) (by omega))
  replace gA := Lib.hid gA
  replace gB := Lib.hid gB
  replace gC := Lib.hid gC
  clear rW hv2 hrd
  go_region_law (first
    | (refine step_append_empty (base := W.heap.size) rfl (.tmp 29) (.tmp 33) 36 rfl Try.underlying36 rpRow rfl (by first | exact oA.out | exact oB.out | exact oC.out) W.heap.size A0 a1.l.length c2 (prs a1.l) rfl (by first | exact rA.out | exact rB.out | exact rC.out) (prs_one_cell _) (by unfold maxLen; omega) (by omega) (by first | exact gA.out.size | exact gB.out.size | exact gC.out.size) ?_; intro A8 c8 w8 o8 g8; have g8' := gr_drew g8; have G8 : Gr W w8 := (by first | exact gA.out.trans g8' | exact gB.out.trans g8' | exact gC.out.trans g8'); replace e0 := (G8.cell (p := ⟨w.heap.size + 1, 0, none⟩) P0.out.lt).trans e0; replace e1 := (G8.cell (p := ⟨w.heap.size + 1, 1, none⟩) P0.out.lt).trans e1; replace o8 := Lib.hid o8; replace G8 := Lib.hid G8; replace g8 := Lib.hid g8'; clear g8')
    | (refine step_append_rows (base := W.heap.size) (n := a1.l.length) (xs := prs a1.l) rfl (.tmp 34) (.tmp 36) 36 rfl Try.underlying36 rpRow rfl (by first | exact o8.out | exact OR.below o8.out ((Gr.refl w8).alloc _)) _ _ 1 1 (prs [p]) rfl (by first | exact new1p w8 p | exact Reads.below nB.out (Below.mono g8.out (by simp)) | exact Reads.below nC.out (Below.mono g8.out (by simp))) (prs_one_cell _) (by unfold maxLen; omega) (by omega) (by first | exact G8.out.size | exact Nat.le_trans G8.out.size ((Gr.refl w8).alloc _).size) (prs (a1.l ++ [p])) (prs_append _ _) (a1.l.length + 1) rfl ?_; intro A9 c9 w9 o9 g9; have G9 : Gr W w9 := (by first | exact Below.trans G8.out g9 | exact Below.trans (G8.out.trans ((Gr.refl w8).alloc _)) g9); have B9 := blk_more B0.out G9; have f9 := B9.frozen 1; have d9 := B9.cell 1; replace o9 := Lib.hid o9; replace G9 := Lib.hid G9; replace B9 := Lib.hid B9; clear e0 e1 g9 G8 g8 o8))
  all_goals
    have Z9 := (blk_more Z0.out G9.out).far (p := ⟨w.heap.size, 1, none⟩) (show w.heap.size + 1 + 1 ≠ w.heap.size by omega) (.slice A9 (a1.l.length + 1) c9)
    have N9 : Blk (w9.setCell ⟨w.heap.size, 1, none⟩ (.slice A9 (a1.l.length + 1) c9)) w.heap.size 40 (stC (.slice A1 b.l.length c1) (.slice A9 (a1.l.length + 1) c9) b a1) := B9.out.set_ 1 _
    have K9 : Kb w.heap.size w9 (w9.setCell ⟨w.heap.size, 1, none⟩ (.slice A9 (a1.l.length + 1) c9)) := (Kb.refl _ _).set 1 _
    have O9 := Lib.hid (or_kbE o9.out K9 l0)
    have H9 := Lib.hid (keep_at (G0.out.trans G9.out) K9 (Nat.le_refl _) (by have := G9.out.size; omega))
    have z9 := Lib.hid Z9.lt
    replace Z9 := Lib.hid Z9
    replace N9 := Lib.hid N9
    clear K9 o9 G9 B9 f9 d9
    go_wp2_with (first
      | ((with_reducible refine wpList_isLoad 40 (.tmp 3) rfl ?_); refine wpList_load_row rfl 40 (.tmp 3) rfl w.heap.size rfl 40 _ (0, 0) _ N9.out Try.underlying40 rfl (stInfo _ _ _ _ _ _) ?_)
      | ((with_reducible refine wpList_isStore 40 (.tmp 6) (.tmp 40) rfl ?_); refine wpList_store_blk rfl 40 (.tmp 6) (.tmp 40) rfl (w.heap.size + 1 + 1) _ rfl rfl 40 stZ Z9.out (stInfo _ _ _ _ _ _) rfl (by simp [Value.oneCell']) ?_; intro w10 n10 k10 z10; replace n10 := Lib.hid n10; replace k10 := Lib.hid k10; replace z10 := Lib.hid z10))
    refine bodyPost_ret (results_cell_row Try.results21 _ _ (w.heap.size + 1 + 1) 40 _ (0, 0) _ rfl n10.out Try.underlying40 rfl (stInfo _ _ _ _ _ _)) rfl ?_
    have hap : (a1.l ++ [p]).length = a1.l.length + 1 := by simp
    have O10 := or_kbE O9.out k10.out (by have := s0.out; omega)
    rw [hap]
    exact ⟨A9, c9, rfl, RO.low (base := W.heap.size) (by unfold RO; rw [hap]; exact O10) lw, keep_at H9.out k10.out (by omega) (Nat.le_of_lt z9.out)⟩
/-- The reference's put, for a way that holds at most 16. -/
theorem rput0 (A0 A1 : Option Addr) (c0 c1 : Nat) (a b : Way) (p : Pk) (w : World) (h0 : RS w (.slice A0 a.l.length c0) a.l) (hl : a.l.length ≤ 16) (hx : a.x < 1000000000000) :
    Calls Try.prog 21 #[.agg (stC (.slice A0 a.l.length c0) (.slice A1 b.l.length c1) a b), .int .i64 0, .agg #[str p.1, .bool p.2]] w fun e w' => ∃ A' c', e = .returned (.agg (stC (.slice A' (putW a p).l.length c') (.slice A1 b.l.length c1) (putW a p) b)) ∧
      RO w' w.heap.size (.slice A' (putW a p).l.length c') (putW a p).l ∧ Gr w w' := by
  unfold putW
  rcases Nat.lt_or_ge a.l.length 16 with h | h
  · rw [if_neg (by omega)]
    exact rput0_few A0 A1 c0 c1 a b p w h0 h
  · rw [if_pos h]
    obtain ⟨A, c, hv, _, _, hr⟩ := id h0
    obtain ⟨ad, hA, _⟩ := hr.2 (by omega)
    injection hv with hv
    subst hv
    subst hA
    exact rput0_full ad A1 c0 c1 a b p w h0 h hl hx _ rfl
theorem rput1 (A0 A1 : Option Addr) (c0 c1 : Nat) (a b : Way) (p : Pk) (w : World) (h0 : RS w (.slice A0 a.l.length c0) a.l) (hl : a.l.length ≤ 16) (hx : a.x < 1000000000000) :
    Calls Try.prog 21 #[.agg (stC (.slice A1 b.l.length c1) (.slice A0 a.l.length c0) b a), .int .i64 1, .agg #[str p.1, .bool p.2]] w fun e w' => ∃ A' c', e = .returned (.agg (stC (.slice A1 b.l.length c1) (.slice A' (putW a p).l.length c') b (putW a p))) ∧
      RO w' w.heap.size (.slice A' (putW a p).l.length c') (putW a p).l ∧ Gr w w' := by
  unfold putW
  rcases Nat.lt_or_ge a.l.length 16 with h | h
  · rw [if_neg (by omega)]
    exact rput1_few A0 A1 c0 c1 a b p w h0 h
  · rw [if_pos h]
    obtain ⟨A, c, hv, _, _, hr⟩ := id h0
    obtain ⟨ad, hA, _⟩ := hr.2 (by omega)
    injection hv with hv
    subst hv
    subst hA
    exact rput1_full ad A1 c0 c1 a b p w h0 h hl hx _ rfl
end Ln
end Go.Proofs.Ytpkbdodclkgjpaa

