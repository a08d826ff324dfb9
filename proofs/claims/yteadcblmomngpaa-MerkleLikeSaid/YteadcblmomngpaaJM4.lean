/- Texts that the law rests on, merged. No condition. -/
import Derived.Test.YteadcblmomngpaaJM1
import Derived.Test.YteadcblmomngpaaJM2
import Derived.Test.YteadcblmomngpaaJM3
import Derived.Laws.ResultCell
set_option linter.unusedVariables false
set_option linter.unusedSimpArgs false
namespace Go.Proofs.Yteadcblmomngpaa
open Go Go.RowKit Go.Shelf W Pth
namespace Tr
open Sm
theorem cell_kb {w w' : World} {g : Nat} (k : Kb g w w') {p : Addr} (h1 : p.block < w.heap.size) (h2 : p.block ≠ g) : w'.cell? p = w.cell? p := by
  have := World.grownBy.block k p.block h1 (fun e => h2 (by injection e))
  unfold World.cell?
  rw [this]
theorem Reads.kb {w w' : World} {B size n g : Nat} {A : Option Addr} {xs : List Value} (h : Reads w B size A n xs) (k : Kb g w w') (hB : B ≤ w.heap.size) (hg : ∀ ad, A = some ad → ad.block ≠ g) : Reads w' B size A n xs :=
  ⟨h.1, fun hn => by
    obtain ⟨ad, e, hb, hc⟩ := h.2 hn
    exact ⟨ad, e, hb, fun j u hu => (cell_kb k (by rw [block_of_add]; omega) (by rw [block_of_add]; exact hg ad e)).trans (hc j u hu)⟩⟩
theorem ob_off {E : TypeId} {w : World} {base c n g : Nat} {A : Option Addr} {l : List UInt8} (h : OB E w base (.slice A n c) l) (hg : g < base) : ∀ ad, A = some ad → ad.block ≠ g := by
  rintro ⟨b, o, s⟩ rfl e
  have := (OB.block h).1
  simp only at e
  omega
abbrev zS : Array Value := #[.int .u64 0, .int .u64 0]
theorem Kb.then_new {g n : Nat} {a b c : World} (h : Kb g a b) (k : Kb n b c) (hn : a.heap.size ≤ n) : Kb g a c :=
  ⟨(World.grownBy.os k).trans (World.grownBy.os h), (World.grownBy.tape k).trans (World.grownBy.tape h), (World.grownBy.output k).trans (World.grownBy.output h), Nat.le_trans h.size k.size,
    fun i hi hne => (World.grownBy.block k i (Nat.lt_of_lt_of_le hi h.size) (fun e => by injection e with e; omega)).trans (World.grownBy.block h i hi hne)⟩
theorem Prn.far {w w' : World} {kb g : Nat} {t : List Nd} {cs : Array Value} (h : Prn w kb t) (k : Kb g w w') (hb : Blk w g 30 cs) (hg : kb + 3 ≤ g) : Prn w' kb t := by
  obtain ⟨h1, ⟨f, n, h2, h3⟩, ⟨f', n', h4, h5⟩⟩ := h
  refine ⟨k.blk h1 (by omega), ⟨f, n, h2.kept k (fun e => by injection e with e; omega), fun p => ?_⟩, ⟨f', n', h4.kept k (fun e => by injection e with e; omega), h5⟩⟩
  have := h3 p
  cases e : f p with
  | none => rw [e] at this; exact this
  | some v =>
    rw [e] at this
    refine World.ownsRow.kept this k ?_
    rcases this.2 with ⟨hv, _⟩ | ⟨x, cap, cur, hv, _, hh, _⟩
    · rw [hv]; exact .inl rfl
    · rw [hv]
      refine .inr fun e2 => ?_
      have e3 : x = g := Option.some.inj e2
      subst e3
      have h9 := hh.symm.trans hb
      injection h9 with h9
      injection h9 with _ h9
      exact absurd h9 (by decide)
theorem storedS (ρ : Operand → Value) (w : World) (B : Nat) (a b : Value) {x y : Tmp} (ha : a.oneCell' = true) (hb : b.oneCell' = true) (h1 : isNew B 30 zS (ρ (.tmp x)) w) (h2 : eqv (.agg #[a, b]) (ρ (.tmp y)) w) {o : Oper} (ho : o.op = .store 30 (.tmp x) (.tmp y)) : ∃ w', (execOp ρ o).run Try.prog w = .ok .skip w' := by
  obtain ⟨g, hv, _, hbk⟩ := h1
  have h2 : ρ (.tmp y) = .agg #[a, b] := h2
  unfold execOp
  simp only [ho, hv, h2]
  have := run_storeVar_row (P := Try.prog) w g 30 30 _ #[a, b] hbk (sumInfo _ _) rfl (by simp [ha, hb])
  refine ⟨w.setRow g #[a, b], ?_⟩
  simp only [Instr.storeAt, Instr.sureAddr, Sem.run_bind, Sem.run_pure, Result.andThen_ok, this]
/-- An answer of the printer's. -/
def OutS (kb : Nat) (t : List Nd) (S : Mix.St) (w : World) : Ending → World → Prop := fun e w' => e = .returned (.agg (smA S)) ∧ Prn w' kb t ∧ Kb (kb + 1) w w'
theorem leaf_text {t : List Nd} (hu : Uniq t) {n : Nd} (hn : n ∈ t) (hk : n.kind ≠ 1) : textP t n.p = n.data := by
  have hf := hu.find_ hn
  rw [textP_leaf ⟨hu.2 n hn, by rw [hf]; simpa using hk⟩, hf]
  rfl
theorem dir_text {t : List Nd} (hu : Uniq t) {n : Nd} (hn : n.p = [] ∨ n ∈ t) (hk : n.kind = 1) : textP t n.p = (kids t n.p).flatMap (entryP t) := by
  refine textP_dir fun h => ?_
  rcases hn with e | hn
  · exact h.1 e
  · have := h.2
    rw [hu.find_ hn] at this
    simp [hk] at this
/-- The loop's state. -/
structure PrS (kb : Nat) (t : List Nd) (n : Nd) (w W : World) (A : Option Addr) (K : List Nd) (A7 : Option Addr) (c7 : Nat) (L : List UInt8) : Prop where
  prn : Prn W kb t
  kb_ : Kb (kb + 1) w W
  nb : Blk W w.heap.size 34 (ndA n)
  sb : Blk W (w.heap.size + 1) 30 zS
  nr : ∃ B, B ≤ W.heap.size ∧ NR W B A K
  ao : ∀ ad, A = some ad → ad.block ≠ kb + 1
  rb : RB W W.heap.size A7 L
  bo : ∀ ad, A7 = some ad → ad.block ≠ kb + 1
  lo : kb + 3 ≤ w.heap.size
theorem PrS.gr {kb : Nat} {t : List Nd} {n : Nd} {w W W' : World} {A A7 : Option Addr} {K : List Nd} {c7 : Nat} {L : List UInt8} (h : PrS kb t n w W A K A7 c7 L) (g : Gr W W') : PrS kb t n w W' A K A7 c7 L :=
  ⟨h.prn.gr g, h.kb_.gr g, blk_more h.nb g, blk_more h.sb g, ⟨h.nr.choose, Nat.le_trans h.nr.choose_spec.1 g.size, h.nr.choose_spec.2.below (g.mono h.nr.choose_spec.1)⟩, h.ao, (h.rb.below g).more g.size, h.bo, h.lo⟩
theorem PrS.met {kb : Nat} {t : List Nd} {n : Nd} {w W W' : World} {A A7 : Option Addr} {K : List Nd} {c7 : Nat} {L : List UInt8} (h : PrS kb t n w W A K A7 c7 L) (p : Prn W' kb t) (g : Kb (kb + 1) W W') : PrS kb t n w W' A K A7 c7 L :=
  have lo := h.lo
  ⟨p, h.kb_.trans g, g.blk h.nb (by omega), g.blk h.sb (by omega), ⟨h.nr.choose, Nat.le_trans h.nr.choose_spec.1 g.size, Reads.kb h.nr.choose_spec.2 g h.nr.choose_spec.1 h.ao⟩, h.ao, (Reads.kb h.rb g (Nat.le_refl _) h.bo).more g.size, h.bo, h.lo⟩
theorem PrS.out {kb : Nat} {t : List Nd} {n : Nd} {w W W' : World} {A A7 A8 : Option Addr} {K : List Nd} {c7 c8 : Nat} {L L' : List UInt8} (h : PrS kb t n w W A K A7 c7 L) (o : OB 5 W' W.heap.size (.slice A8 L'.length c8) L') (g : Gr W W') : PrS kb t n w W' A K A8 c8 L' :=
  have h' := h.gr g
  ⟨h'.prn, h'.kb_, h'.nb, h'.sb, h'.nr, h'.ao, o.rb, ob_off o (by have := h.kb_.size; have := h.lo; omega), h.lo⟩
set_option maxRecDepth 100000 in
set_option maxHeartbeats 8000000 in
theorem of_step (t : List Nd) (kb : Nat) (hf : Fit t) (hu : Uniq t) (n : Nd) (hn : n = root ∨ n ∈ t)
    (IH : ∀ k ∈ kids t n.p, ∀ w, Prn w kb t → Calls Try.prog 28 #[.pointer (some ⟨kb + 1 + 1, 0, none⟩), nV k] w (OutS kb t (Mix.of (textP t k.p)) w))
    (w : World) (h : Prn w kb t) : Calls Try.prog 28 #[.pointer (some ⟨kb + 1 + 1, 0, none⟩), nV n] w (OutS kb t (Mix.of (textP t n.p)) w) := by
  have hnl : n.p.length ≤ 90000 ∧ n.data.length ≤ 1000000 := by
    rcases hn with rfl | hn
    · exact ⟨by simp [root], by simp [root]⟩
    · exact hf.2 n hn
  have hnp : n.p = [] ∨ n ∈ t := by
    rcases hn with rfl | hn
    · exact .inl rfl
    · exact .inr hn
  have hlf : n.kind ≠ 1 → textP t n.p = n.data := fun hk => by
    rcases hn with rfl | hn
    · exact absurd rfl hk
    · exact leaf_text hu hn hk
  have hdr := dir_text hu hnp
  have hmm : n.p = [] ∨ n.p ∈ t.map (·.p) := hnp.imp id fun h => List.mem_map.2 ⟨n, h, rfl⟩
  have htl := textP_len hf.1 (fun y hy => (hf.2 y hy).2) n.p
  have ht1 := hf.1
  have hplo : kb + 3 ≤ w.heap.size := h.pb.lt
  have b0 := Blk.new w 34 (ndA n)
  have g0 := (Gr.refl w).alloc (.cells (ndA n) 34)
  have b1 := Blk.new (w.alloc (.cells (ndA n) 34)) 30 zS
  rw [World.size_alloc] at b1
  have g1 := g0.alloc (.cells zS 30)
  have nb := b0.alloc (.cells zS 30)
  have p1 := h.gr g1
  have d1 := nb.cell 1
  have z0 : ((w.alloc (.cells (ndA n) 34)).alloc (.cells zS 30)).heap.size = w.heap.size + 1 + 1 := by simp
  obtain ⟨T, hT⟩ : ∃ T, textP t n.p = T := ⟨_, rfl⟩
  obtain ⟨S, hS⟩ : ∃ S, Mix.of T = S := ⟨_, rfl⟩
  rw [hT] at hlf hdr htl
  rw [hT, hS]
  replace p1 := Lib.hid p1
  replace h := Lib.hid h
  replace nb := Lib.hid nb
  replace b1 := Lib.hid b1
  replace g1 := Lib.hid g1
  replace z0 := Lib.hid z0
  replace hdr := Lib.hid hdr
  replace hlf := Lib.hid hlf
  replace IH := Lib.hid IH
  obtain ⟨sx, sy⟩ := S
  clear b0 g0 hn hnp
  by_cases hk : n.kind = 1
  · have hkb : (n.kind != 1) = false := by simpa using hk
    have hd := Lib.hid (hdr.out hk)
    clear hdr hlf hk
    go_enter Try.func28, Try.ntmps28
    go_wp2
    clear d1
    generalize (w.alloc (.cells (ndA n) 34)).alloc (.cells zS 30) = W0 at *
    have pb0 := Lib.hid p1.out.pb
    have hmet := p1.out.met_at (p := n.p) (by unfold maxLen; omega)
    rw [hT, hS] at hmet
    rcases hmet with hmet | hmet
    · replace hmet := Lib.hid hmet
      refine region_grow rfl (by kernel_rfl) ?_
      refine GW.mv rfl trivial (.inl rfl) (kn0 (t := 0) (c := .pointer (some ⟨kb + 1 + 1, 0, none⟩)) (by kernel_rfl) rfl) (eqv_lasts _) ?_
      refine GW.p1 (.pointer (some ⟨kb + 1 + 1, 0, none⟩)) rfl trivial (kn (t := 17) (j := 0) (by kernel_rfl)) (fun ρ w' hρ hg => by simp [execOp, hρ, go_sem]) ?_
      refine GW.p1 (.pointer (some ⟨kb + 1 + 1, 1, none⟩)) rfl trivial (kn (t := 18) (j := 1) (by kernel_rfl)) (fun ρ w' hρ hg => by simp [execOp, hρ, go_sem]) ?_
      refine GW.p1 (.map (some (kb + 1))) rfl trivial (kn (t := 19) (j := 2) (by kernel_rfl)) (fun ρ w' hρ hg => by simp [execOp, hρ, go_sem, (hg.cell (p := ⟨kb + 1 + 1, 1, none⟩) pb0.out.lt).trans (pb0.out.cell 1)]) ?_
      refine GW.p1 (.pointer (some ⟨w.heap.size, 0, none⟩)) rfl trivial (kn0 (t := 3) (c := .pointer (some ⟨w.heap.size, 0, none⟩)) (by kernel_rfl) rfl) (fun ρ w' hρ hg => by simp [execOp, hρ, go_sem]) ?_
      refine GW.p1 (str n.p) rfl trivial (kn (t := 21) (j := 4) (by kernel_rfl)) (fun ρ w' hρ hg => by simp [execOp, hρ, go_sem, (hg.cell (p := ⟨w.heap.size, 0, none⟩) nb.out.lt).trans (nb.out.cell 0)]) ?_
      refine GW.p2 (.tuple #[.agg #[.int .u64 0, .int .u64 0], .bool false]) rfl trivial (kn (t := 20) (j := 3) (by kernel_rfl)) (kn (t := 22) (j := 5) (by kernel_rfl)) (fun ρ w' h1 h2 hg => by show ((Instr.lookup 73 (ρ (.tmp 20)) (ρ (.tmp 22)) true >>= fun v => pure (Next.value v)) : Sem Next).run Try.prog w' = _; rw [h1, h2, Sem.run_bind, hmet.out w' hg]; rfl) ?_
      refine GW.mv rfl trivial (.inl rfl) (kn (t := 23) (j := 6) (by kernel_rfl)) (eqv_lasts _) ?_
      refine GW.p1 (.agg #[.int .u64 0, .int .u64 0]) rfl trivial (kn (t := 16) (j := 7) (by kernel_rfl)) (fun ρ w' hρ hg => by simp [execOp, hρ, go_sem]) ?_
      refine GW.p1 (.bool false) rfl trivial (kn (t := 16) (j := 7) (by kernel_rfl)) (fun ρ w' hρ hg => by simp [execOp, hρ, go_sem]) ?_
      refine GW.alloc zS rfl trivial rfl (fun w => by kernel_rfl) ?_
      refine GW.tailLate 9 16 25 (.tuple #[.agg #[.int .u64 0, .int .u64 0], .bool false]) (.bool false) _ _ 7 10 8 5 24 _ _ _ _ (m := 11) (by omega) (by kernel_rfl) (by kernel_rfl) rfl rfl rfl (fun ρ w hρ => by simp [execOp, hρ, go_sem]) (fun _ => rfl) rfl rfl (by omega) (by omega) (fun v w h => h) rfl rfl rfl rfl rfl rfl (by omega) (by omega) rfl rfl (by omega) (by omega) (fun ρ w hg h1 h2 => storedS ρ w _ (.int .u64 0) (.int .u64 0) rfl rfl h1 h2 rfl) (fun w' hg => ?_)
      rintro v0 - v1 - v2 - v3 - v4 - v5 - v6 - v7 - v8 h8 v9 h9 v10 h10
      obtain rfl : v8 = (.agg #[.int .u64 0, .int .u64 0]) := h8
      obtain rfl : v9 = (.bool false) := h9
      simp only [GFin, List.take_succ_cons, List.take_zero, List.drop_succ_cons, List.drop_zero, Act.put, List.setIfInBounds_toArray, List.set_cons_succ, List.set_cons_zero]
      obtain ⟨g5, rfl, hg5, bg5⟩ := h10
      go_wp2_with (first
        | ((with_reducible refine wpList_isStore 30 (.tmp 5) (.tmp 24) rfl ?_); refine wpList_store_blk rfl 30 (.tmp 5) (.tmp 24) rfl g5 zS rfl rfl 30 zS bg5 (sumInfo _ _) rfl (by simp [Value.oneCell']) ?_; intro w4 n4 k4 z4; have G4 : Gr W0 w4 := Below.trans hg (Below.mono (Kb.below k4 (Nat.le_of_lt bg5.lt)) hg5); have pr4 := Lib.hid (p1.out.gr G4); have nb4 := Lib.hid (blk_more nb.out G4); have sb4 := Lib.hid (blk_more b1.out G4); have GG4 := Lib.hid (Gr.trans g1.out G4); clear k4 z4 G4 hg hg5 p1 nb b1 g1 pb0 hmet n4 bg5))
      obtain ⟨A, c, nr0, ao0, hc0, hlook⟩ := pr4.out.kids_at (p := n.p) (by unfold maxLen; omega)
      have hkl := kids_len t n.p
      obtain ⟨K, hK⟩ : ∃ K, kids t n.p = K := ⟨_, rfl⟩
      have hKm := fun x (hx : x ∈ K) => hf.2 x (kids_mem (p := n.p) (by rw [hK]; exact hx))
      have hd2 := hd.out
      rw [hK] at hkl nr0 hlook IH hd2
      have pb0 := Lib.hid pr4.out.pb
      have nb := nb4
      have st4 : PrS kb t n w w4 A K none 0 [] := ⟨pr4.out, Kb.of_gr GG4.out, nb4.out, sb4.out, ⟨_, Nat.le_refl _, nr0⟩, fun ad e he => by have := ao0 ad e; omega, RB.nil_, fun ad e => (by cases e), hplo⟩
      replace hlook := Lib.hid hlook
      replace st4 := Lib.hid st4
      replace hd2 := Lib.hid hd2
      replace hKm := Lib.hid hKm
      clear hd nr0 ao0 pr4 nb4 sb4 GG4
      refine region_grow rfl (by kernel_rfl) ?_
      refine GW.mv rfl trivial (.inl rfl) (kn0 (t := 0) (c := .pointer (some ⟨kb + 1 + 1, 0, none⟩)) (by kernel_rfl) rfl) (eqv_lasts _) ?_
      refine GW.p1 (.pointer (some ⟨kb + 1 + 1, 0, none⟩)) rfl trivial (kn (t := 28) (j := 0) (by kernel_rfl)) (fun ρ w' hρ hg => by simp [execOp, hρ, go_sem]) ?_
      refine GW.p1 (.pointer (some ⟨kb + 1 + 1, 0, none⟩)) rfl trivial (kn (t := 29) (j := 1) (by kernel_rfl)) (fun ρ w' hρ hg => by simp [execOp, hρ, go_sem]) ?_
      refine GW.p1 (.map (some kb)) rfl trivial (kn (t := 30) (j := 2) (by kernel_rfl)) (fun ρ w' hρ hg => by simp [execOp, hρ, go_sem, (hg.cell (p := ⟨kb + 1 + 1, 0, none⟩) pb0.out.lt).trans (pb0.out.cell 0)]) ?_
      refine GW.p1 (.pointer (some ⟨w.heap.size, 0, none⟩)) rfl trivial (kn0 (t := 3) (c := .pointer (some ⟨w.heap.size, 0, none⟩)) (by kernel_rfl) rfl) (fun ρ w' hρ hg => by simp [execOp, hρ, go_sem]) ?_
      refine GW.p1 (str n.p) rfl trivial (kn (t := 32) (j := 4) (by kernel_rfl)) (fun ρ w' hρ hg => by simp [execOp, hρ, go_sem, (hg.cell (p := ⟨w.heap.size, 0, none⟩) nb.out.lt).trans (nb.out.cell 0)]) ?_
      refine GW.p2 (.slice A K.length c) rfl trivial (kn (t := 31) (j := 3) (by kernel_rfl)) (kn (t := 33) (j := 5) (by kernel_rfl)) (fun ρ w' h1 h2 hg => by show ((Instr.lookup 72 (ρ (.tmp 31)) (ρ (.tmp 33)) false >>= fun v => pure (Next.value v)) : Sem Next).run Try.prog w' = _; rw [h1, h2, Sem.run_bind, hlook.out w' hg]; rfl) ?_
      refine GW.lenV rfl trivial rfl Try.underlying22 (kn (t := 34) (j := 6) (by kernel_rfl)) ?_
      refine GW.mv (ψ := eqv (Value.int IntKind.i64 0)) rfl trivial (.inl rfl) knc (eqv_lasts _) ?_
      refine GW.done (by simp) (by kernel_rfl) (fun w' hg => ?_)
      rintro v0 - v1 - v2 - v3 - v4 - v5 - v6 h6 v7 h7 v8 h8
      obtain rfl : v6 = (.slice A K.length c) := h6
      obtain rfl : v7 = (.int .i64 ((K.length : Nat) : Int)) := h7
      obtain rfl : v8 = (Value.int IntKind.i64 0) := h8
      simp only [GFin, Act.put, List.setIfInBounds_toArray, List.set_cons_succ, List.set_cons_zero]
      rename_i w6
      have st6 := Lib.hid (st4.out.gr hg)
      clear st4 hlook pb0 nb hg
      go_wp2
      go_loopw [7, 9, 36] (fun v7 _ v36 wr => ∃ (k : Nat) (A7 : Option Addr) (c7 : Nat) (L : List UInt8), k ≤ K.length ∧ v7 = .slice A7 L.length c7 ∧ v36 = .int .i64 (k : Int) ∧ Hid (L = (K.take k).flatMap (entryP t) ∧ L.length ≤ c7 ∧ PrS kb t n w wr A K A7 c7 L)) (fun _ _ v36 _ => K.length - (intOf v36).toNat)
      case atStart => exact ⟨0, none, 0, [], by omega, rfl, rfl, Lib.hid ⟨rfl, Nat.le_refl _, st6.out⟩⟩
      case round =>
        clear st6
        obtain ⟨k, A7, c7, L, hk, rfl, rfl, hst⟩ := hrel
        obtain ⟨hL, hLc, st⟩ := hst.out
        clear hst
        by_cases hkl2 : k < K.length
        · have ij : (k : Int) < (K.length : Int) := by omega
          have kw : IntKind.i64.wrap ((k : Int) + 1) = (k : Int) + 1 := IntWalk.i64_in _ (by omega)
          have hnr := st.nr.choose_spec.2
          obtain ⟨kd, rfl, hlt', e0, e1, e2, e3, e4⟩ := NR.at_ hnr hkl2
          have hdn : L ++ entryP t K[k] = (K.take (k + 1)).flatMap (entryP t) := by rw [List.take_succ_eq_append_getElem hkl2, List.flatMap_append, hL]; simp
          have hdl : L.length ≤ 39000 := by
            rw [hL]
            refine Nat.le_trans (flat_len_le _ 39 (entryP_len t) _) ?_
            rw [List.length_take]
            omega
          have hxk := hKm.out _ (List.getElem_mem hkl2)
          have ih := IH.out _ (List.getElem_mem hkl2)
          obtain ⟨x, hx⟩ : ∃ x, K[k] = x := ⟨_, rfl⟩
          rw [hx] at hdn hxk ih e0 e1 e2 e3 e4
          have q1 := entryP_len t x
          unfold entryP at hdn q1
          rw [List.length_append, List.length_append] at q1
          rw [← List.append_assoc, ← List.append_assoc] at hdn
          obtain ⟨X, hX⟩ : ∃ X, Mix.of (textP t x.p) = X := ⟨_, rfl⟩
          obtain ⟨xx, xy⟩ := X
          rw [hX] at hdn ih q1
          simp only at hdn q1
          have hba := Lib.hid (fun w => base_any x.p w (by omega))
          obtain ⟨bx, hbx⟩ : ∃ bx, base x.p = bx := ⟨_, rfl⟩
          rw [hbx] at hba hdn q1
          have hbl := base_len x.p
          rw [hbx] at hbl
          obtain ⟨L1, hL1⟩ : ∃ L1, L1 = L ++ Vint.text bx := ⟨_, rfl⟩
          obtain ⟨L2, hL2⟩ : ∃ L2, L2 = L1 ++ Vint.num (UInt64.ofInt x.kind).toNat := ⟨_, rfl⟩
          obtain ⟨L3, hL3⟩ : ∃ L3, L3 = L2 ++ Vint.sum xx xy := ⟨_, rfl⟩
          have hl1 : L1.length ≤ 39039 := by rw [hL1, List.length_append]; omega
          have hl2 : L2.length ≤ 39078 := by rw [hL2, List.length_append]; omega
          rw [← hL1, ← hL2, ← hL3] at hdn
          have hte : ∀ w, RB w w.heap.size A7 L → Calls Try.prog 44 #[.slice A7 L.length c7, str bx] w (Out 5 w L1) := fun w hr => by rw [hL1]; exact Vint.vtext_any A7 c7 L bx w (by omega) (by omega) hr
          have hnu : ∀ A c w, RB w w.heap.size A L1 → Calls Try.prog 45 #[.slice A L1.length c, .int .u64 (n64 (UInt64.ofInt x.kind))] w (Out 5 w L2) := fun A c w hr => by rw [hL2]; exact Vint.vnum_any A c L1 (UInt64.ofInt x.kind) w (by omega) hr
          have hsu : ∀ A c w, RB w w.heap.size A L2 → Calls Try.prog 46 #[.slice A L2.length c, .agg #[.int .u64 (n64 xx), .int .u64 (n64 xy)]] w (Out 5 w L3) := fun A c w hr => by rw [hL3]; exact Vint.vsum_any A c L2 xx xy w (by omega) hr
          replace hte := Lib.hid hte
          replace hnu := Lib.hid hnu
          replace hsu := Lib.hid hsu
          clear hL1 hL2 hL3 hl1 hl2
          have bn := Lib.hid (Blk.new wr 34 (ndA noNd))
          replace ih := Lib.hid ih
          replace hdn := Lib.hid hdn
          replace st := Lib.hid st
          clear hL hnr hlt' hx hX hbx hxk q1
          go_wp2_with (first
            | ((with_reducible refine wpList_isStore 34 (.tmp 9) (.tmp 39) rfl ?_); refine wpList_store_blk rfl 34 (.tmp 9) (.tmp 39) rfl wr.heap.size (ndA x) rfl rfl 34 (ndA noNd) bn.out (nodeInfo _ _ _ _ _) rfl (by simp [Value.oneCell']) ?_; intro w9 n9 k9 z9; have y0 := n9.cell 0; have st9 := Lib.hid (st.out.gr (Kb.new k9)); replace n9 := Lib.hid n9; clear k9 z9 bn e0 e1 e2 e3 e4 st)
            | (go_at_call 24; fail))
          go_at_call 24
          refine (hba.out _).mono ?_
          rintro e w10 ⟨rfl, g10⟩
          have st10 := Lib.hid (st9.out.gr g10)
          have n10 := Lib.hid (blk_more n9.out g10)
          clear hba g10 st9 n9 y0
          go_wp2_with fail
          go_at_call 44
          refine (hte.out _ st10.out.rb).mono ?_
          rintro e w11 ⟨A8, c8, rfl, o11, g11⟩
          have st11 := Lib.hid (st10.out.out o11 g11)
          have n11 := blk_more n10.out g11
          have y1 := n11.cell 1
          replace n11 := Lib.hid n11
          clear hte g11 o11 st10 n10
          go_wp2_with fail
          go_at_call 45
          refine (hnu.out _ _ _ st11.out.rb).mono ?_
          rintro e w12 ⟨A9, c9, rfl, o12, g12⟩
          have st12 := Lib.hid (st11.out.out o12 g12)
          have n12 := blk_more n11.out g12
          have y0 := n12.cell 0
          have y1' := n12.cell 1
          have y2 := n12.cell 2
          have y3 := n12.cell 3
          have y4 := n12.cell 4
          clear hnu g12 o12 st11 n11 y1 n12
          go_wp2_with fail
          go_at_call 28
          refine (ih.out _ st12.out.prn).mono ?_
          rintro e w13 ⟨rfl, pr13, k13⟩
          have st13 := Lib.hid (st12.out.met pr13 k13)
          clear ih pr13 k13 st12 y0 y1' y2 y3 y4
          go_wp2_with fail
          go_at_call 46
          refine (hsu.out _ _ _ st13.out.rb).mono ?_
          rintro e w14 ⟨A10, c10, rfl, o14, g14⟩
          have hcap := Lib.hid (OB.cap o14).1
          have st14 := Lib.hid (st13.out.out o14 g14)
          clear hsu g14 o14 st13
          go_wp2
          exact ⟨⟨k + 1, A10, c10, _, by omega, rfl, by go_num, Lib.hid ⟨hdn.out, hcap.out, st14.out⟩⟩, by simp [intOf]; omega⟩
        · obtain rfl : k = K.length := by omega
          rw [List.take_length, ← hd2.out] at hL
          subst hL
          have hof : ∀ (A : Option Addr) (c : Nat) (w : World), L.length ≤ c → RB w w.heap.size A L → Calls Try.prog 34 #[.slice A L.length c] w fun e w' => e = .returned (.agg (smA (Mix.of L))) ∧ Gr w w' := fun A c w hc hr => Mix.of_any A c L w (by omega) hc hr
          rw [hS] at hof
          replace hof := Lib.hid hof
          replace hLc := Lib.hid hLc
          replace st := Lib.hid st
          clear hd2 hKm IH
          go_wp2_with fail
          go_at_call 34
          refine (hof.out _ _ _ hLc.out st.out.rb).mono ?_
          rintro e w15 ⟨rfl, g15⟩
          have st15 := Lib.hid (st.out.gr g15)
          have bz := Lib.hid (Blk.new w15 30 zS)
          clear hof g15 st hLc
          go_wp2_with (first
            | ((with_reducible refine wpList_isStore 30 (.tmp 10) (.tmp 57) rfl ?_); refine wpList_store_blk rfl 30 (.tmp 10) (.tmp 57) rfl w15.heap.size (smA (sx, sy)) rfl rfl 30 zS bz.out (sumInfo _ _) rfl (by simp [Value.oneCell']) ?_; intro w16 n16 k16 z16; have st16 := Lib.hid (st15.out.gr (Kb.new k16)); have hz16 : kb + 3 ≤ w15.heap.size := Nat.le_trans st15.out.lo st15.out.kb_.size; have hnb := Lib.hid st16.out.nb; have pb0 := Lib.hid st16.out.prn.pb; replace n16 := Lib.hid n16; clear k16 z16 bz st15))
          refine region_grow rfl (by kernel_rfl) ?_
          refine GW.mv rfl trivial (.inl rfl) (kn0 (t := 0) (c := .pointer (some ⟨kb + 1 + 1, 0, none⟩)) (by kernel_rfl) rfl) (eqv_lasts _) ?_
          refine GW.p1 (.pointer (some ⟨kb + 1 + 1, 0, none⟩)) rfl trivial (kn (t := 58) (j := 0) (by kernel_rfl)) (fun ρ w' hρ hg => by simp [execOp, hρ, go_sem]) ?_
          refine GW.p1 (.pointer (some ⟨kb + 1 + 1, 1, none⟩)) rfl trivial (kn (t := 59) (j := 1) (by kernel_rfl)) (fun ρ w' hρ hg => by simp [execOp, hρ, go_sem]) ?_
          refine GW.p1 (.map (some (kb + 1))) rfl trivial (kn (t := 60) (j := 2) (by kernel_rfl)) (fun ρ w' hρ hg => by simp [execOp, hρ, go_sem, (hg.cell (p := ⟨kb + 1 + 1, 1, none⟩) pb0.out.lt).trans (pb0.out.cell 1)]) ?_
          refine GW.p1 (.pointer (some ⟨w.heap.size, 0, none⟩)) rfl trivial (kn0 (t := 3) (c := .pointer (some ⟨w.heap.size, 0, none⟩)) (by kernel_rfl) rfl) (fun ρ w' hρ hg => by simp [execOp, hρ, go_sem]) ?_
          refine GW.p1 (str n.p) rfl trivial (kn (t := 62) (j := 4) (by kernel_rfl)) (fun ρ w' hρ hg => by simp [execOp, hρ, go_sem, (hg.cell (p := ⟨w.heap.size, 0, none⟩) hnb.out.lt).trans (hnb.out.cell 0)]) ?_
          refine GW.p1 (.agg #[.int .u64 (n64 sx), .int .u64 (n64 sy)]) rfl trivial (kn0 (t := 10) (c := .pointer (some ⟨w15.heap.size, 0, none⟩)) (by kernel_rfl) rfl) (fun ρ w' hρ hg => by simp [execOp, hρ, go_sem, (hg.cell (p := ⟨w15.heap.size, 0, none⟩) n16.out.lt).trans (n16.out.cell 0), (hg.cell (p := ⟨w15.heap.size, 1, none⟩) n16.out.lt).trans (n16.out.cell 1)]) ?_
          refine GW.tailT (m := 7) (by simp) (by kernel_rfl) (by kernel_rfl) (fun w' hg => ?_)
          rintro v0 - v1 - v2 - v3 h3 v4 - v5 h5 v6 h6
          obtain rfl : v3 = (.map (some (kb + 1))) := h3
          obtain rfl : v5 = (str n.p) := h5
          obtain rfl : v6 = (.agg #[.int .u64 (n64 sx), .int .u64 (n64 sy)]) := h6
          simp only [GFin, List.take_succ_cons, List.take_zero, List.drop_succ_cons, List.drop_zero, Act.put, List.setIfInBounds_toArray, List.set_cons_succ, List.set_cons_zero]
          rename_i w17
          have st17 := st16.out.gr hg
          have n17 := Lib.hid (blk_more n16.out hg)
          obtain ⟨w18, hrun, pr18, k18, hz18⟩ := st17.prn.store (p := n.p) (v := .agg #[.int .u64 (n64 sx), .int .u64 (n64 sy)]) (by unfold maxLen; omega) hmm (by omega) (by rw [hT, hS])
          have st18 := Lib.hid (st17.met pr18 k18)
          have n18 := Lib.hid (k18.blk n17.out (by omega))
          clear hg st17 st16 n16 n17 pr18 k18 hz18 hnb pb0
          refine wpList_mapSet rfl (.tmp 61) (.tmp 63) (.tmp 64) 73 rfl rfl rfl rfl hrun ?_
          clear hrun
          have x0 := n18.out.cell 0
          have x1 := n18.out.cell 1
          go_wp2_with (first
            | ((with_reducible refine wpList_isStore 30 (.tmp 4) (.tmp 65) rfl ?_); refine wpList_store_blk rfl 30 (.tmp 4) (.tmp 65) rfl (w.heap.size + 1) (smA (sx, sy)) rfl rfl 30 zS st18.out.sb (sumInfo _ _) rfl (by simp [Value.oneCell']) ?_; intro w19 n19 k19 z19)
            | fail)
          have P19 : Prn w19 kb t := st18.out.prn.far k19 st18.out.sb (by omega)
          have K19 : Kb (kb + 1) w w19 := Kb.then_new st18.out.kb_ k19 (by omega)
          exact bodyPost_ret (results_cell_row Try.results28 _ _ (w.heap.size + 1) 30 _ (0, 0) _ rfl n19 Try.underlying30 rfl (sumInfo _ _)) rfl ⟨rfl, P19, K19⟩
    · replace hmet := Lib.hid hmet
      refine region_grow rfl (by kernel_rfl) ?_
      refine GW.mv rfl trivial (.inl rfl) (kn0 (t := 0) (c := .pointer (some ⟨kb + 1 + 1, 0, none⟩)) (by kernel_rfl) rfl) (eqv_lasts _) ?_
      refine GW.p1 (.pointer (some ⟨kb + 1 + 1, 0, none⟩)) rfl trivial (kn (t := 17) (j := 0) (by kernel_rfl)) (fun ρ w' hρ hg => by simp [execOp, hρ, go_sem]) ?_
      refine GW.p1 (.pointer (some ⟨kb + 1 + 1, 1, none⟩)) rfl trivial (kn (t := 18) (j := 1) (by kernel_rfl)) (fun ρ w' hρ hg => by simp [execOp, hρ, go_sem]) ?_
      refine GW.p1 (.map (some (kb + 1))) rfl trivial (kn (t := 19) (j := 2) (by kernel_rfl)) (fun ρ w' hρ hg => by simp [execOp, hρ, go_sem, (hg.cell (p := ⟨kb + 1 + 1, 1, none⟩) pb0.out.lt).trans (pb0.out.cell 1)]) ?_
      refine GW.p1 (.pointer (some ⟨w.heap.size, 0, none⟩)) rfl trivial (kn0 (t := 3) (c := .pointer (some ⟨w.heap.size, 0, none⟩)) (by kernel_rfl) rfl) (fun ρ w' hρ hg => by simp [execOp, hρ, go_sem]) ?_
      refine GW.p1 (str n.p) rfl trivial (kn (t := 21) (j := 4) (by kernel_rfl)) (fun ρ w' hρ hg => by simp [execOp, hρ, go_sem, (hg.cell (p := ⟨w.heap.size, 0, none⟩) nb.out.lt).trans (nb.out.cell 0)]) ?_
      refine GW.p2 (.tuple #[.agg #[.int .u64 (n64 sx), .int .u64 (n64 sy)], .bool true]) rfl trivial (kn (t := 20) (j := 3) (by kernel_rfl)) (kn (t := 22) (j := 5) (by kernel_rfl)) (fun ρ w' h1 h2 hg => by show ((Instr.lookup 73 (ρ (.tmp 20)) (ρ (.tmp 22)) true >>= fun v => pure (Next.value v)) : Sem Next).run Try.prog w' = _; rw [h1, h2, Sem.run_bind, hmet.out w' hg]; rfl) ?_
      refine GW.mv rfl trivial (.inl rfl) (kn (t := 23) (j := 6) (by kernel_rfl)) (eqv_lasts _) ?_
      refine GW.p1 (.agg #[.int .u64 (n64 sx), .int .u64 (n64 sy)]) rfl trivial (kn (t := 16) (j := 7) (by kernel_rfl)) (fun ρ w' hρ hg => by simp [execOp, hρ, go_sem]) ?_
      refine GW.p1 (.bool true) rfl trivial (kn (t := 16) (j := 7) (by kernel_rfl)) (fun ρ w' hρ hg => by simp [execOp, hρ, go_sem]) ?_
      refine GW.alloc zS rfl trivial rfl (fun w => by kernel_rfl) ?_
      refine GW.tailLate 9 16 25 (.tuple #[.agg #[.int .u64 (n64 sx), .int .u64 (n64 sy)], .bool true]) (.bool true) _ _ 7 10 8 5 24 _ _ _ _ (m := 11) (by omega) (by kernel_rfl) (by kernel_rfl) rfl rfl rfl (fun ρ w hρ => by simp [execOp, hρ, go_sem]) (fun _ => rfl) rfl rfl (by omega) (by omega) (fun v w h => h) rfl rfl rfl rfl rfl rfl (by omega) (by omega) rfl rfl (by omega) (by omega) (fun ρ w hg h1 h2 => storedS ρ w _ (.int .u64 (n64 sx)) (.int .u64 (n64 sy)) rfl rfl h1 h2 rfl) (fun w' hg => ?_)
      rintro v0 - v1 - v2 - v3 - v4 - v5 - v6 - v7 - v8 h8 v9 h9 v10 h10
      obtain rfl : v8 = (.agg #[.int .u64 (n64 sx), .int .u64 (n64 sy)]) := h8
      obtain rfl : v9 = (.bool true) := h9
      simp only [GFin, List.take_succ_cons, List.take_zero, List.drop_succ_cons, List.drop_zero, Act.put, List.setIfInBounds_toArray, List.set_cons_succ, List.set_cons_zero]
      obtain ⟨g5, rfl, hg5, bg5⟩ := h10
      go_wp2_with (first
        | ((with_reducible refine wpList_isStore 30 (.tmp 5) (.tmp 24) rfl ?_); refine wpList_store_blk rfl 30 (.tmp 5) (.tmp 24) rfl g5 (smA (sx, sy)) rfl rfl 30 zS bg5 (sumInfo _ _) rfl (by simp [Value.oneCell']) ?_; intro w4 n4 k4 z4; have G4 : Gr W0 w4 := Below.trans hg (Below.mono (Kb.below k4 (Nat.le_of_lt bg5.lt)) hg5); have pr4 := Lib.hid (p1.out.gr G4); have nb4 := Lib.hid (blk_more nb.out G4); have sb4 := Lib.hid (blk_more b1.out G4); have GG4 := Lib.hid (Gr.trans g1.out G4); have x0 := n4.cell 0; have x1 := n4.cell 1; clear k4 z4 G4 hg hg5 p1 nb b1 g1 pb0 hmet bg5)
        | ((with_reducible refine wpList_isStore 30 (.tmp 4) (.tmp 27) rfl ?_); refine wpList_store_blk rfl 30 (.tmp 4) (.tmp 27) rfl (w.heap.size + 1) (smA (sx, sy)) rfl rfl 30 zS sb4.out (sumInfo _ _) rfl (by simp [Value.oneCell']) ?_; intro w19 n19 k19 z19))
      have P19 : Prn w19 kb t := pr4.out.far k19 sb4.out (by omega)
      have K19 : Kb (kb + 1) w w19 := Kb.then_new (Kb.of_gr GG4.out) k19 (by omega)
      exact bodyPost_ret (results_cell_row Try.results28 _ _ (w.heap.size + 1) 30 _ (0, 0) _ rfl n19 Try.underlying30 rfl (sumInfo _ _)) rfl ⟨rfl, P19, K19⟩
  · have hkb : (n.kind != 1) = true := by simpa using hk
    have hda := fun w => data_any n w hnl.2
    rw [← hlf.out hk, hS] at hda
    replace hda := Lib.hid hda
    have d0 := nb.out.cell 0
    have d2 := nb.out.cell 2
    have d3 := nb.out.cell 3
    have d4 := nb.out.cell 4
    clear hdr hlf hk
    go_enter Try.func28, Try.ntmps28
    go_wp2_with (first
      | (go_at_call 17; refine (hda.out _).mono ?_; rintro e w5 ⟨rfl, g5⟩; have P5 := Lib.hid (p1.out.gr g5); have G5 := Lib.hid (Gr.trans g1.out g5); have b5 := Lib.hid (blk_more b1.out g5); clear g5 hda p1 g1 b1 d0 d1 d2 d3 d4)
      | ((with_reducible refine wpList_isStore 30 (.tmp 4) (.tmp 15) rfl ?_); refine wpList_store_blk rfl 30 (.tmp 4) (.tmp 15) rfl (w.heap.size + 1) (smA (sx, sy)) rfl rfl 30 zS b5.out (sumInfo _ _) rfl (by simp [Value.oneCell']) ?_; intro w19 n19 k19 z19))
    have P19 : Prn w19 kb t := P5.out.far k19 b5.out (by omega)
    have K19 : Kb (kb + 1) w w19 := Kb.then_new (Kb.of_gr G5.out) k19 (by omega)
    exact bodyPost_ret (results_cell_row Try.results28 _ _ (w.heap.size + 1) 30 _ (0, 0) _ rfl n19 Try.underlying30 rfl (sumInfo _ _)) rfl ⟨rfl, P19, K19⟩
theorem printer_of (t : List Nd) (kb : Nat) (hf : Fit t) (hu : Uniq t) : ∀ (d : Nat) (n : Nd) (w : World), 17 ≤ d + (names n.p).length → (n = root ∨ n ∈ t) → Prn w kb t →
    Calls Try.prog 28 #[.pointer (some ⟨kb + 1 + 1, 0, none⟩), nV n] w (OutS kb t (Mix.of (textP t n.p)) w) := by
  intro d
  induction d with
  | zero => intro n w h; have := names_len16 n.p; omega
  | succ d ih => exact fun n w hd hn h => of_step t kb hf hu n hn (fun k hk w hw => ih k w (by have := kids_depth hk; omega) (.inr (kids_mem hk)) hw) w h
theorem of_any (t : List Nd) (kb : Nat) (hf : Fit t) (hu : Uniq t) (n : Nd) (hn : n = root ∨ n ∈ t) (w : World) (h : Prn w kb t) :
    Calls Try.prog 28 #[.pointer (some ⟨kb + 1 + 1, 0, none⟩), nV n] w (OutS kb t (Mix.of (textP t n.p)) w) := printer_of t kb hf hu 17 n w (by omega) hn h
end Tr
end Go.Proofs.Yteadcblmomngpaa
namespace Go.Proofs.Yteadcblmomngpaa
open Go Go.RowKit Go.Shelf W Pth
namespace Tr
open Sm
/-- A printer in new blocks. -/
def isPrn (B : Nat) (t : List Nd) : Ass := fun v w => ∃ kb, v = .pointer (some ⟨kb + 1 + 1, 0, none⟩) ∧ B ≤ kb ∧ Prn w kb t
theorem isPrn_lasts (B : Nat) (t : List Nd) : Lasts (isPrn B t) := fun _ _ _ hg ⟨kb, hv, h1, h2⟩ => ⟨kb, hv, h1, h2.gr hg⟩
theorem atP_some {t : List Nd} {p : List UInt8} {n : Nd} (h : atP t p = some n) : (n = root ∨ n ∈ t) ∧ n.p = p := by
  unfold atP at h
  by_cases hp : p = []
  · rw [if_pos hp] at h
    obtain rfl := Option.some.inj h
    exact ⟨.inl rfl, hp.symm⟩
  · rw [if_neg hp] at h
    have h1 := List.find?_some h
    exact ⟨.inr (List.mem_of_find?_eq_some h), by simpa using h1⟩
theorem atP_print {t : List Nd} {p : List UInt8} : printP t p = (atP t p).map fun _ => Mix.of (textP t p) := by
  unfold printP atP
  by_cases hp : p = []
  · rw [if_pos hp, if_neg (fun h => h.1 hp)]; rfl
  · rw [if_neg hp]
    cases e : find t p with
    | none => rw [if_pos ⟨hp, rfl⟩]; rfl
    | some n => rw [if_neg (fun h => by cases h.2)]; rfl
set_option maxRecDepth 100000 in
set_option maxHeartbeats 8000000 in
theorem print_any (A : Option Addr) (c : Nat) (l : List Nd) (hf : Fit l) (hu : Uniq l) (p : List UInt8) (w : World) (h : NR w w.heap.size A l) :
    Calls Try.prog 11 #[.slice A l.length c, str p] w fun e w' => e = .returned (printV (printP l p)) ∧ Gr w w' := by
  rw [atP_print]
  have hl1 := hf.1
  have b0 := Lib.hid (Blk.new w 30 zS)
  have g0 := (Gr.refl w).alloc (.cells zS 30)
  have h1 := h.on g0
  have hat := at_any A c l p _ h1 (by omega)
  replace g0 := Lib.hid g0
  cases ha : atP l p with
  | none =>
    rw [ha] at hat
    have hat2 : Hid (Calls Try.prog 22 #[.slice A l.length c, str p] (w.alloc (.cells zS 30)) fun e w' => e = .returned (.tuple #[nV noNd, .bool false]) ∧ Gr (w.alloc (.cells zS 30)) w') := hat
    clear hat ha h h1
    go_enter Try.func11, Try.ntmps11
    go_wp2_with fail
    go_at_call 22
    refine hat2.out.mono ?_
    rintro e w1 ⟨rfl, g1⟩
    have b1 := Lib.hid (blk_more b0.out g1)
    have g2 := Lib.hid (Gr.trans g0.out g1)
    have bn := Lib.hid (Blk.new w1 34 (ndA noNd))
    clear hat2 g1 b0 g0
    go_wp2_with (first
      | ((with_reducible refine wpList_isStore 34 (.tmp 6) (.tmp 12) rfl ?_); refine wpList_store_blk rfl 34 (.tmp 6) (.tmp 12) rfl w1.heap.size (ndA noNd) rfl rfl 34 (ndA noNd) bn.out (nodeInfo _ _ _ _ _) rfl (by simp [Value.oneCell']) ?_; intro w9 n9 k9 z9; have G9 := Lib.hid (Gr.trans g2.out (Kb.new k9)); have b9 := Lib.hid (blk_more b1.out (Kb.new k9)); clear n9 k9 z9 bn b1 g2)
      | ((with_reducible refine wpList_isStore 30 (.tmp 4) (.tmp 16) rfl ?_); refine wpList_store_blk rfl 30 (.tmp 4) (.tmp 16) rfl w.heap.size zS rfl rfl 30 zS b9.out (sumInfo _ _) rfl (by simp [Value.oneCell']) ?_; intro w8 n8' k8 z8; have g8 := Lib.hid (Below.trans G9.out (Kb.below k8 (Nat.le_of_lt b9.out.lt))); replace n8' := Lib.hid n8'; clear k8 z8 G9 b9))
    exact bodyPost_ret (results_cell_one Try.results11 _ _ w.heap.size 30 _ (0, 0) _ rfl n8'.out Try.underlying30 rfl (sumInfo _ _)) rfl ⟨rfl, g8.out⟩
  | some n =>
    rw [ha] at hat
    obtain ⟨hn, hnp⟩ := atP_some ha
    have hat2 : Hid (Calls Try.prog 22 #[.slice A l.length c, str p] (w.alloc (.cells zS 30)) fun e w' => e = .returned (.tuple #[nV n, .bool true]) ∧ Gr (w.alloc (.cells zS 30)) w') := hat
    show Calls _ _ _ w fun e w' => e = .returned (printV (some (Mix.of (textP l p)))) ∧ Gr w w'
    have hof := fun kb w (hP : Prn w kb l) => of_any l kb hf hu n hn w hP
    rw [hnp] at hof
    obtain ⟨S, hS⟩ : ∃ S, Mix.of (textP l p) = S := ⟨_, rfl⟩
    rw [hS] at hof ⊢
    obtain ⟨sx, sy⟩ := S
    replace hof := Lib.hid hof
    have hop := Lib.hid (fun w' (hr : NR w' w'.heap.size A l) => open_any A c l hf w' hr)
    replace h := Lib.hid h
    clear hat ha h1 hn hnp hS
    go_enter Try.func11, Try.ntmps11
    go_wp2_with fail
    go_at_call 22
    refine hat2.out.mono ?_
    rintro e w1 ⟨rfl, g1⟩
    have b1 := Lib.hid (blk_more b0.out g1)
    have g2 := Lib.hid (Gr.trans g0.out g1)
    have bn := Lib.hid (Blk.new w1 34 (ndA noNd))
    clear hat2 g1 b0 g0
    go_wp2_with (first
      | ((with_reducible refine wpList_isStore 34 (.tmp 6) (.tmp 12) rfl ?_); refine wpList_store_blk rfl 34 (.tmp 6) (.tmp 12) rfl w1.heap.size (ndA n) rfl rfl 34 (ndA noNd) bn.out (nodeInfo _ _ _ _ _) rfl (by simp [Value.oneCell']) ?_; intro W0 n9 k9 z9; have G9 := Lib.hid (Gr.trans g2.out (Kb.new k9)); have b9 := Lib.hid (blk_more b1.out (Kb.new k9)); replace n9 := Lib.hid n9; clear k9 z9 bn b1 g2))
    have hr9 := Lib.hid (h.out.on G9.out)
    have s9 := b9.out.lt
    refine region_grow rfl (by kernel_rfl) ?_
    refine GW.mv rfl trivial (.inl rfl) (kn0 (t := 0) (c := .slice A l.length c) (by kernel_rfl) rfl) (eqv_lasts _) ?_
    refine GW.call1 (isPrn W0.heap.size l) rfl trivial rfl Try.func27 (by kernel_rfl) (by kernel_rfl) (isPrn_lasts _ _) (kn (t := 17) (j := 0) (by kernel_rfl)) (fun v w' hg hv => ?_) ?_
    · obtain rfl : v = _ := hv
      refine (hop.out w' (hr9.out.on hg)).mono ?_
      rintro e w9 ⟨rfl, hp9, hg9⟩
      exact ⟨_, rfl, ⟨_, rfl, hg.size, hp9⟩, hg9⟩
    refine GW.p1 (.agg #[str n.p, .int .i64 n.kind, .int .i64 n.mode, .int .i64 n.time, str n.data]) rfl trivial (kn0 (t := 6) (c := .pointer (some ⟨w1.heap.size, 0, none⟩)) (by kernel_rfl) rfl) (fun ρ w' hρ hg => by simp [execOp, hρ, go_sem, (hg.cell (p := ⟨w1.heap.size, 0, none⟩) n9.out.lt).trans (n9.out.cell 0), (hg.cell (p := ⟨w1.heap.size, 1, none⟩) n9.out.lt).trans (n9.out.cell 1), (hg.cell (p := ⟨w1.heap.size, 2, none⟩) n9.out.lt).trans (n9.out.cell 2), (hg.cell (p := ⟨w1.heap.size, 3, none⟩) n9.out.lt).trans (n9.out.cell 3), (hg.cell (p := ⟨w1.heap.size, 4, none⟩) n9.out.lt).trans (n9.out.cell 4)]) ?_
    refine GW.tailT (m := 3) (by simp) (by kernel_rfl) (by kernel_rfl) (fun w' hg => ?_)
    rintro v0 - v1 h1 v2 h2
    obtain rfl : v2 = (.agg #[str n.p, .int .i64 n.kind, .int .i64 n.mode, .int .i64 n.time, str n.data]) := h2
    simp only [GFin, List.take_succ_cons, List.take_zero, List.drop_succ_cons, List.drop_zero, Act.put, List.setIfInBounds_toArray, List.set_cons_succ, List.set_cons_zero]
    rename_i w3
    obtain ⟨kb, rfl, hkb, P3⟩ := h1
    have hk3 := P3.pb.lt
    replace P3 := Lib.hid P3
    have G3 := Lib.hid (Gr.trans G9.out hg)
    have b3 := Lib.hid (blk_more b9.out hg)
    clear hg hr9 hop G9 b9 n9 h
    go_wp2_with fail
    go_at_call 28
    refine (hof.out kb _ P3.out).mono ?_
    rintro e w5 ⟨rfl, P5, k5⟩
    have sG3 := Nat.le_trans G3.out.size (Nat.le_refl _)
    have sgw : w.heap.size < kb := by omega
    have G5 := Lib.hid (Below.trans G3.out (Below.mono (Kb.below k5 (by omega)) (by omega)))
    have b5 := Lib.hid (k5.blk b3.out (by omega))
    clear P5 k5 P3 G3 b3 hof
    go_wp2_with (first
      | ((with_reducible refine wpList_isStore 30 (.tmp 4) (.tmp 20) rfl ?_); refine wpList_store_blk rfl 30 (.tmp 4) (.tmp 20) rfl w.heap.size (smA (sx, sy)) rfl rfl 30 zS b5.out (sumInfo _ _) rfl (by simp [Value.oneCell']) ?_; intro w8 n8' k8 z8; have g8 := Lib.hid (Below.trans G5.out (Kb.below k8 (Nat.le_of_lt b5.out.lt))); replace n8' := Lib.hid n8'; clear k8 z8 G5 b5))
    exact bodyPost_ret (results_cell_one Try.results11 _ _ w.heap.size 30 _ (0, 0) _ rfl n8'.out Try.underlying30 rfl (sumInfo _ _)) rfl ⟨rfl, g8.out⟩
theorem wpList_append_rowsG {P : Program} {E : TypeId} {size base n : Nat} {v : Value} {xs : List Value} {w : World} {ops : Array Oper} {rest : List Oper} {o : Oper} {a : Act} {Q : Exit → Act → World → Prop} (hgd : o.guard = none) (s x : Operand) (T : TypeId)
    (ho : o.op = .call { callee := .builtin .append, args := #[s, x], argTypes := #[T, T] }) {bytes : Nat} (ht : P.underlying T = some (.slice E)) (hE : RowType P E size bytes) (hs : a.eval s = v) (hown : OR E size w base v n xs)
    (B : Nat) (A : Option Addr) (m c : Nat) (news : List Value) (hx : a.eval x = .slice A m c) (hr : Reads w B size A m news) (h1 : ∀ u ∈ news, u.oneCell' = true) (hlen : n + m ≤ maxLen) (hby : (n + m) * bytes ≤ 140737488355328) (hbase : base ≤ w.heap.size)
    (L : List Value) (hL : L = xs ++ news) (k : Nat) (hk : k = n + m) (h : ∀ A' c' w', OR E size w' base (.slice A' k c') k L → Below base w w' → w.grownBy w' v.ownBlock → wpList P ops Q rest (a.put o.dst (.slice A' k c')) w') : wpList P ops Q (o :: rest) a w :=
  wpList_wanted (by simp [Region.wanted, hgd]) fun _ hK => by
    subst hL
    subst hk
    obtain ⟨A', c', w', hrun, h2, h3, h4, _⟩ := run_append_rows (P := P) T o.type ht hE hown B A m c news hr h1 hlen hby hbase
    unfold Oper.wp execOp
    simp only [ho, resolve, invoke, builtin, Sem.run_bind, Sem.run_pure, Result.andThen_ok, List.map_toArray, List.map_cons, List.map_nil, hs, hx, hrun]
    exact hK _ _ (h A' c' w' h2 h3 h4)
/-- A slice of sums, as it lies. -/
def sc (s : Mix.St) : List Value := [.int .u64 (n64 s.1), .int .u64 (n64 s.2)]
def scs (l : List Mix.St) : List Value := l.flatMap sc
theorem scs_append (a b : List Mix.St) : scs (a ++ b) = scs a ++ scs b := by simp [scs]
theorem scs_one (s : Mix.St) : scs [s] = sc s := by simp [scs]
theorem scs_len (l : List Mix.St) : (scs l).length = l.length * 2 := flat_len sc 2 (fun _ => rfl) l
theorem sumRow : RowType Try.prog 30 2 16 := by
  obtain ⟨i, h1, h2, h3, h4⟩ := info_parts (show (Try.prog.info? 30).map (fun i => (i.zero, i.size, i.bytes)) = some (some (.agg #[.int .u64 0, .int .u64 0]), 2, 16) by kernel_rfl)
  exact ⟨i, _, h1, h2, h3, h4, rfl, by omega⟩
theorem new2 (w : World) (t : TypeId) (a b : Value) : Reads (w.alloc (.cells #[a, b] t)) (w.heap.size + 1) 2 (some ⟨w.heap.size, 0, none⟩) 1 [a, b] := by
  refine ⟨rfl, fun _ => ⟨_, rfl, Nat.lt_succ_self _, fun j u hu => ?_⟩⟩
  have ha : (⟨w.heap.size, 0, none⟩ : Addr).add j = ⟨w.heap.size, j, none⟩ := by unfold Addr.add; split <;> simp_all
  rw [ha, (Blk.new w t _).cell]
  simpa using hu
theorem Prn.app {w w' : World} {kb base n : Nat} {t : List Nd} {v : Value} {xs : List Value} (h : Prn w kb t) (ho : OR 30 2 w base v n xs) (hb : kb + 3 ≤ base) (k : w.grownBy w' v.ownBlock) : Prn w' kb t := by
  cases hv : v.ownBlock with
  | none =>
    rw [hv] at k
    exact h.gr ⟨World.grownBy.os k, World.grownBy.tape k, World.grownBy.output k, World.grownBy.size k, fun i hi => World.grownBy.block k i hi (by simp)⟩
  | some g =>
    rw [hv] at k
    rcases ho.2 with ⟨e, _⟩ | ⟨x, cap, cur, e, hx, hh, hr⟩
    · rw [e] at hv; cases hv
    · rw [e] at hv
      have e3 : x = g := Option.some.inj hv
      subst e3
      exact h.far k hh (by omega)
theorem or_kb {E : TypeId} {size base n g : Nat} {w w' : World} {v : Value} {xs : List Value} (h : OR E size w base v n xs) (k : Kb g w w') (hg : g < base) : OR E size w' base v n xs := by
  refine World.ownsRow.kept h k ?_
  cases hv : v.ownBlock with
  | none => exact .inl rfl
  | some x =>
    refine .inr fun e => ?_
    have := (World.ownsRow.lt h x hv).1
    injection e with e
    omega
/-- The prints of all nodes. -/
def prints (l : List Nd) : List Mix.St := l.map fun n => Mix.of (textP l n.p)
def OutA (w : World) (l : List Mix.St) : Ending → World → Prop := fun e w' => ∃ A c, e = .returned (.slice A l.length c) ∧ OR 30 2 w' w.heap.size (.slice A l.length c) l.length (scs l) ∧ Gr w w'
set_option maxRecDepth 100000 in
set_option maxHeartbeats 8000000 in
theorem all_any (A : Option Addr) (c : Nat) (l : List Nd) (hf : Fit l) (hu : Uniq l) (w : World) (h : NR w w.heap.size A l) :
    Calls Try.prog 16 #[.slice A l.length c] w (OutA w (prints l)) := by
  have hl1 := hf.1
  have hpl : (prints l).length = l.length := by simp [prints]
  obtain ⟨Z, hZ⟩ : ∃ Z, prints l = Z := ⟨_, rfl⟩
  rw [hZ] at hpl ⊢
  have hZk : ∀ k (hk : k < l.length), Z.take (k + 1) = Z.take k ++ [Mix.of (textP l l[k].p)] := fun k hk => by
    rw [List.take_succ_eq_append_getElem (by omega)]
    simp only [← hZ, prints, List.getElem_map]
  have hmf : ∀ (fn : Fn) (first cap : Array Value) (w : World), (Instr.makeFunc fn first cap).run Try.prog w = .ok (.func fn first cap) w := fun _ _ _ _ => rfl
  have hop := Lib.hid (open_any A c l hf w h)
  have hofs := Lib.hid (fun k (hk : k < l.length) w' (hP : Prn w' w.heap.size l) => of_any l w.heap.size hf hu l[k] (.inr (List.getElem_mem hk)) w' hP)
  replace hZk := Lib.hid hZk
  replace h := Lib.hid h
  clear hZ
  go_enter Try.func16, Try.ntmps16
  go_wp2_with fail
  go_at_call 27
  refine hop.out.mono ?_
  rintro e w1 ⟨rfl, P1, g1⟩
  have hs1 : w.heap.size + 3 ≤ w1.heap.size := P1.pb.lt
  have h1 := Lib.hid (h.out.below g1)
  replace P1 := Lib.hid P1
  replace g1 := Lib.hid g1
  clear h hop
  go_wp2
  go_loopw [4, 6, 12] (fun v4 _ v12 wr => ∃ (k : Nat) (A4 : Option Addr) (c4 : Nat), k ≤ l.length ∧ v4 = .slice A4 k c4 ∧ v12 = .int .i64 (k : Int) ∧ Hid (Prn wr w.heap.size l ∧ OR 30 2 wr (w.heap.size + 3) (.slice A4 k c4) k (scs (Z.take k)) ∧ NR wr w.heap.size A l ∧ Gr w wr)) (fun _ _ v12 _ => l.length - (intOf v12).toNat)
  case atStart => exact ⟨0, none, 0, by omega, rfl, rfl, Lib.hid ⟨P1.out, World.ownsRow_nil _ _ _ _, h1.out, g1.out⟩⟩
  case round =>
    clear P1 h1 g1 hmf
    obtain ⟨k, A4, c4, hk, rfl, rfl, hst⟩ := hrel
    obtain ⟨P, o, h, gg⟩ := hst.out
    clear hst
    by_cases hkl : k < l.length
    · have ij : (k : Int) < (l.length : Int) := by omega
      have kw : IntKind.i64.wrap ((k : Int) + 1) = (k : Int) + 1 := IntWalk.i64_in _ (by omega)
      obtain ⟨ad, rfl, hlt, e0, e1, e2, e3, e4⟩ := h.at_ hkl
      have hof := fun w P => hofs.out k hkl w P
      have hzk := hZk.out k hkl
      obtain ⟨x, hx⟩ : ∃ x, l[k] = x := ⟨_, rfl⟩
      rw [hx] at e0 e1 e2 e3 e4 hof hzk
      obtain ⟨X, hX⟩ : ∃ X, Mix.of (textP l x.p) = X := ⟨_, rfl⟩
      rw [hX] at hof hzk
      obtain ⟨xx, xy⟩ := X
      have bn := Lib.hid (Blk.new wr 34 (ndA noNd))
      have hkb : w.heap.size + 3 ≤ wr.heap.size := P.pb.lt
      replace P := Lib.hid P
      replace o := Lib.hid o
      replace h := Lib.hid h
      replace gg := Lib.hid gg
      replace hof := Lib.hid hof
      replace hzk := Lib.hid hzk
      clear hlt hx hX
      go_wp2_with (first
        | ((with_reducible refine wpList_isStore 34 (.tmp 6) (.tmp 15) rfl ?_); refine wpList_store_blk rfl 34 (.tmp 6) (.tmp 15) rfl wr.heap.size (ndA x) rfl rfl 34 (ndA noNd) bn.out (nodeInfo _ _ _ _ _) rfl (by simp [Value.oneCell']) ?_; intro w9 n9 k9 z9; have y0 := n9.cell 0; have y1 := n9.cell 1; have y2 := n9.cell 2; have y3 := n9.cell 3; have y4 := n9.cell 4; have P9 := Lib.hid (P.out.gr (Kb.new k9)); have o9 := Lib.hid (OR.below o.out (Kb.new k9)); have h9 := Lib.hid (h.out.below ((Kb.new k9).mono gg.out.size)); have gg9 := Lib.hid (Gr.trans gg.out (Kb.new k9)); clear k9 n9 z9 bn e0 e1 e2 e3 e4 P o h gg)
        | (go_at_call 28; fail))
      go_at_call 28
      refine (hof.out _ P9.out).mono ?_
      rintro e w10 ⟨rfl, P10, k10⟩
      have s10 := k10.size
      have s9 := gg9.out.size
      have s99 : w.heap.size + 3 ≤ w9.heap.size := P9.out.pb.lt
      have o10 := or_kb o9.out k10 (by omega)
      have h10 := Lib.hid (h9.out.below (Below.mono (Kb.below k10 (by omega)) (by omega)))
      have gg10 := Lib.hid (Below.trans gg9.out (Below.mono (Kb.below k10 (by omega)) (by omega)))
      have gA := (Gr.refl w10).alloc (.cells #[.int .u64 (n64 xx), .int .u64 (n64 xy)] 30)
      have oA := Lib.hid (OR.below o10 gA)
      have PA := Lib.hid (P10.gr gA)
      have nA := Lib.hid (new2 w10 30 (.int .u64 (n64 xx)) (.int .u64 (n64 xy)))
      have ggA := Lib.hid (Gr.trans gg10.out gA)
      have hA := Lib.hid (h10.out.below (gA.mono (by omega)))
      have sA : (w10.alloc (.cells #[.int .u64 (n64 xx), .int .u64 (n64 xy)] 30)).heap.size = w10.heap.size + 1 := by simp
      replace sA := Lib.hid sA
      clear k10 P10 o10 P9 o9 h9 gg9 h10 gg10 gA hof y0 y1 y2 y3 y4
      go_wp2_with (first
        | ((with_reducible refine wpList_isApp (.tmp 16) (.tmp 20) 41 rfl ?_); refine wpList_append_rowsG (base := w.heap.size + 3) (v := .slice A4 k c4) rfl (.tmp 16) (.tmp 20) 41 rfl Try.underlying41 sumRow rfl (by exact oA.out) (w10.heap.size + 1) (some ⟨w10.heap.size, 0, none⟩) 1 1 [.int .u64 (n64 xx), .int .u64 (n64 xy)] rfl (by exact nA.out) (by simp [Value.oneCell']) (by unfold maxLen; omega) (by omega) (by have := sA.out; omega) (scs (Z.take (k + 1))) (by rw [hzk.out, scs_append, scs_one]; rfl) (k + 1) rfl ?_; intro A2 c2 w2 o2 b2 k2; have P2 := Lib.hid (PA.out.app oA.out (Nat.le_refl _) k2); have G2 := Lib.hid (Below.trans ggA.out (b2.mono (by omega))); have h2 := Lib.hid (hA.out.below (b2.mono (by omega))); replace o2 := Lib.hid o2; clear b2 k2 oA PA nA ggA hA sA hzk))
      exact ⟨⟨k + 1, A2, c2, by omega, rfl, by go_num, Lib.hid ⟨P2.out, o2.out, h2.out, G2.out⟩⟩, by simp [intOf]; omega⟩
    · obtain rfl : k = l.length := by omega
      rw [← hpl, List.take_length] at o
      replace P := Lib.hid P
      replace o := Lib.hid o
      replace gg := Lib.hid gg
      clear h hZk hofs
      go_wp2
      go_ret
      exact ⟨A4, c4, by rw [hpl]; rfl, by exact OR.base_le o.out (by omega), gg.out⟩
end Tr
end Go.Proofs.Yteadcblmomngpaa
namespace Go.Proofs.Yteadcblmomngpaa
open Go Go.RowKit Go.Shelf W
variable {F : Fence} {n : Nat} {P : Program}
/-- As wpIn_rangeBox; what the loop's variables are given may make memory. -/
theorem wpIn_rangeBoxA {α : Type} {g : Operand} {ps : Array Tmp} {assign body : Code} {Q : Exit → Act → World → Prop} {a : Act} {w : World} {b : Nat} (hbw : b < w.heap.size)
    (hro : F.round = none) (h1 : 1 ≤ n) {gf : Nat} {lb : Array Value} (hg : a.eval g = .func (.func gf) #[] lb) (hFg : F.fn gf) (eg : ∀ args w, (callFunc gf args).run P w = .ok (.enter gf args) w)
    {encs : α → Array Value} {Kp : World → World → Prop} {S Sp : List α → Prop} {N : Nat} (hseq : ∀ W, Below w.heap.size w W → SeqB F (n - 1) P gf lb encs b Kp S Sp N W)
    (hKt : ∀ {A B C : World}, Kp A B → Kp B C → Kp A C) (hKb : ∀ (W : World) (l : Nat) (o : Obj), w.heap.size ≤ l → Kp W (W.putObj l o)) (hps : ∀ x, (encs x).size = ps.size)
    (I : List α → World → Prop) (Ix : Code → List α → World → Prop) (hI : OwnFrom w.heap.size I) (hIx : ∀ c, OwnFrom w.heap.size (Ix c)) (hB : Bears b I) (hBx : ∀ c, Bears b (Ix c)) (h0 : I [] w)
    (AR : List α → α → Act → World → Prop) (hAR : ∀ pre x a, OwnFrom w.heap.size (fun (_ : List α) W => AR pre x a W))
    (hassign : ∀ (l : Nat) (pre : List α) (x : α) (W : World) (K : Act → World → Prop), I pre W → pre.length < N → (∀ a' W', KeepsFrom w.heap.size W W' → Kp W W' → AR pre x a' W' → K a' W') →
      assign.wpIn (F.inRound l) (n - 1 - 1) P (Exit.then K (fun _ _ _ => False)) { tmps := (ps.zip (encs x)).foldl (fun t (p, v) => t.setIfInBounds p v) a.tmps, defers := [] } W)
    (hbody : ∀ (l : Nat) (pre : List α) (x : α) (a' : Act) (W : World), AR pre x a' W → pre.length < N → body.wpIn (F.inRound l) (n - 1 - 1) P (ownPostG w.heap.size Kp I Ix (pre ++ [x]) W) a' W)
    (hdone : ∀ (D : Nat) (xs : List α) (W : World), w.heap.size ≤ D → S xs → I xs W → W.heap[D]? = some (.deferred (some [])) → Q .normal { a with defers := { target := .collected D, args := #[] } :: a.defers } W)
    (hstop : ∀ (D : Nat) (c : Code) (pre : List α) (W : World), w.heap.size ≤ D → Sp pre → Ix c pre W → W.heap[D]? = some (.deferred (some [])) → c.wpIn F n P Q { a with defers := { target := .collected D, args := #[] } :: a.defers } W) :
    (Code.rangeFunc g ps assign body).wpIn F n P Q a w := by
  refine wpIn_rangeFunc fun fn hfn => ?_
  rw [hro]
  obtain ⟨d, hd⟩ : ∃ d, w.heap.size = d := ⟨_, rfl⟩
  obtain ⟨R, hR⟩ : ∃ R : LoopState → Option Code → Loop, R = fun st pe => { state := st, pending := pe, fn, tmps := a.tmps, params := ps, assign, body, defers := d } := ⟨_, rfl⟩
  have grow : Below w.heap.size w ((w.alloc (.deferred (some []))).alloc (.loop (R .ready none))) := ((Below.refl _ w).alloc (Nat.le_refl _) _).alloc (by simp) _
  have book : Booked ((w.alloc (.deferred (some []))).alloc (.loop (R .ready none))) d (R .ready none) := by
    refine ⟨?_, ?_⟩
    · rw [← hd]
      exact (Below.heap_alloc _ _ _ (by simp)).trans (World.alloc_heap_new w _)
    · have h := World.alloc_heap_new (w.alloc (.deferred (some []))) (.loop (R .ready none))
      rw [World.size_alloc, hd] at h
      exact h
  have start : I [] ((w.alloc (.deferred (some []))).alloc (.loop (R .ready none))) := hI.alloc _ (hI.alloc _ h0)
  have enter : (Instr.enterLoop fn a.tmps ps assign body none).run P w = .ok (w.heap.size + 1, [{ target := .collected w.heap.size, args := #[] }]) ((w.alloc (.deferred (some []))).alloc (.loop (R .ready none))) := by
    rw [hR, ← hd]
    exact run_enterLoop_outer _ _ _ _ _
  generalize (w.alloc (.deferred (some []))).alloc (.loop (R .ready none)) = V at grow book start enter
  have turnI : ∀ {s : List α} {W : World} {r : Loop} (r' : Loop), I s W → Booked W d r → I s (W.putObj (d + 1) (.loop r')) := fun r' hi hk => hI.putObj _ hi (by omega) hk.hl rfl
  have turnX : ∀ {c : Code} {s : List α} {W : World} {r : Loop} (r' : Loop), Ix c s W → Booked W d r → Ix c s (W.putObj (d + 1) (.loop r')) := fun r' hi hk => (hIx _).putObj _ hi (by omega) hk.hl rfl
  rw [hd] at enter
  refine ⟨d + 1, [{ target := .collected d, args := #[] }], V, { target := .fn (.func gf) lb, args := #[.func (.yield (d + 1)) #[] #[]] }, V, gf, #[.func (.yield (d + 1)) #[] #[]] ++ lb, V, enter,
    by simp only [resolve, hg]; simp [go_sem], fun f' hf' => by simp [Target.leads] at hf'; subst hf'; exact hFg, by simp [invoke, go_sem, eg], fun _ => h1, ?_⟩
  refine (hseq V grow (d + 1) (fun s W => I s W ∧ Booked W d (R .ready none)) (fun s W => ∃ c, Ix c s W ∧ Booked W d (R .done (some c)))
    (fun s A B h k => ⟨hB s A B h.1 k, h.2.bears k (by omega)⟩)
    (fun s A B ⟨c, hc, hk⟩ k => ⟨c, hBx c s A B hc k, hk.bears k (by omega)⟩) ?_ ⟨start, book⟩).mono ?_
  · rintro pre x W ⟨hi, hk⟩ hN
    have yields := run_yield (P := P) (args := encs x) hk.hl (by rw [hR]; exact hps x)
    rw [hR] at yields
    refine ⟨fn, _, assign, body, yields, roundIn_of_wpIn hfn (hassign _ pre x W _ hi hN (fun a' W1 k1 kp1 ar => ?_))⟩
    have hk1 := hk.keeps (hd ▸ k1)
    have begins := run_beginRound (P := P) hk1.hl (by rw [hR])
    refine ⟨_, begins, ?_⟩
    have busy := hk1.put { R .ready none with state := .busy }
    have close : ∀ (j : Option Code) (Y : World), Booked Y d { R .ready none with state := .busy } →
        (Instr.endRound (d + 1) j).run P Y = .ok (.bool j.isNone) (Y.putObj (d + 1) (.loop (R (if j.isNone then .ready else .done) j))) := fun j Y hy => by
      have h := run_endRound (P := P) j hy.hl
      rw [hR] at h ⊢
      exact h
    have leave : ∀ (c : Code) (Y : World), KeepsFrom w.heap.size (W1.putObj (d + 1) (.loop { R .ready none with state := .busy })) Y → Ix c (pre ++ [x]) Y →
        ∃ v W', (Instr.endRound (d + 1) (some c)).run P Y = .ok v W' ∧ ((Ending.returned v = .returned (.bool true) ∧ (I (pre ++ [x]) W' ∧ Booked W' d (R .ready none)) ∧ Kp W W') ∨ (Ending.returned v = .returned (.bool false) ∧ ∃ c, Ix c (pre ++ [x]) W' ∧ Booked W' d (R .done (some c)))) := fun c Y k3 hx => by
      have hy := busy.keeps (hd ▸ k3)
      exact ⟨_, _, close (some c) Y hy, .inr ⟨rfl, c, turnX _ hx hy, hy.put _⟩⟩
    refine wpIn_mono (hbody _ pre x a' _ ((hAR pre x a').putObj (s := pre) _ ar (by omega) hk1.hl rfl) hN) fun e a3 Y hp => ?_
    cases e with
    | normal =>
      obtain ⟨k3, kp3, hi3⟩ := hp
      have hy := busy.keeps (hd ▸ k3)
      exact ⟨_, _, close none Y hy, .inl ⟨rfl, ⟨turnI _ hi3 hy, hy.put _⟩, hKt kp1 (hKt (hKt (hKb _ _ _ (by omega)) kp3) (hKb _ _ _ (by omega)))⟩⟩
    | ret => exact leave .ret Y hp.1 hp.2
    | exit id => exact leave (.exit id) Y hp.1 hp.2
    | goto t => exact leave (.goto t) Y hp.1 hp.2
    | panic ch => exact hp.elim
    | outgrown => exact hp.elim
  · rintro e Y ⟨⟨v, rfl⟩, (⟨xs, hS, hi, hk⟩ | ⟨pre, hSp, c, hi, hk⟩)⟩
    · have ends := run_endLoop (P := P) hk.hl (by rw [hR]; simp)
      rw [hR] at ends
      exact ⟨none, _, ends, hdone d xs _ (by omega) hS (turnI _ hi hk) ((World.putObj_heap_other (by omega)).trans hk.hd)⟩
    · have ends := run_endLoop (P := P) hk.hl (by rw [hR]; simp)
      rw [hR] at ends
      exact ⟨some c, _, ends, hstop d c pre _ (by omega) hSp (turnX _ hi hk) ((World.putObj_heap_other (by omega)).trans hk.hd)⟩
end Go.Proofs.Yteadcblmomngpaa
namespace Go.Proofs.Yteadcblmomngpaa
open Go Go.RowKit Go.Shelf W Pth
attribute [local go_sem] Oper.semAt_some
namespace Tr
theorem wpListIn_append_rowsG {F : Fence} {nF : Nat} {P : Program} {E : TypeId} {size base n : Nat} {v : Value} {xs : List Value} {w : World} {ops : Array Oper} {rest : List Oper} {o : Oper} {a : Act} {Q : Exit → Act → World → Prop} (hgd : o.guard = none) (s x : Operand) (T : TypeId)
    (ho : o.op = .call { callee := .builtin .append, args := #[s, x], argTypes := #[T, T] }) {bytes : Nat} (ht : P.underlying T = some (.slice E)) (hE : RowType P E size bytes) (hs : a.eval s = v) (hown : OR E size w base v n xs)
    (B : Nat) (A : Option Addr) (m c : Nat) (news : List Value) (hx : a.eval x = .slice A m c) (hr : Reads w B size A m news) (h1 : ∀ u ∈ news, u.oneCell' = true) (hlen : n + m ≤ maxLen) (hby : (n + m) * bytes ≤ 140737488355328) (hbase : base ≤ w.heap.size)
    (L : List Value) (hL : L = xs ++ news) (k : Nat) (hk : k = n + m) (h : ∀ A' c' w', OR E size w' base (.slice A' k c') k L → Below base w w' → w.grownBy w' v.ownBlock → wpListIn F nF P ops Q rest (a.put o.dst (.slice A' k c')) w') : wpListIn F nF P ops Q (o :: rest) a w := by
  subst hL
  subst hk
  refine wpListIn_plain hgd fun K hK => ?_
  obtain ⟨A', c', w', hrun, h2, h3, h4, _⟩ := run_append_rows (P := P) T o.type ht hE hown B A m c news hr h1 hlen hby hbase
  unfold Oper.wpIn
  refine ⟨by simp [Oper.about, ho, resolve, Target.leads, Sem.run_pure], ?_⟩
  rw [Oper.semAt_plain F _ _ (by rw [ho]; intro c hc'; cases hc')]
  simp [execOp, ho, resolve, invoke, builtin, hs, hx, hrun, Result.andThen]
  exact hK _ _ (h A' c' w' h2 h3 h4)
theorem wpListIn_isApp {F : Fence} {nF : Nat} {P : Program} {w : World} {ops : Array Oper} {rest : List Oper} {o : Oper} {a : Act} {Q : Exit → Act → World → Prop} (s x : Operand) (T : TypeId)
    (ho : o.op = .call { callee := .builtin .append, args := #[s, x], argTypes := #[T, T] }) (h : wpListIn F nF P ops Q (o :: rest) a w) : wpListIn F nF P ops Q (o :: rest) a w := h
theorem own_cells {E : TypeId} {size base n g : Nat} {w : World} {v : Value} {xs : List Value} (ho : OR E size w base v n xs) (h : v.ownBlock = some g) : ∃ cs, w.heap[g]? = some (.cells cs E (0, 0)) := by
  rcases ho.2 with ⟨e, _⟩ | ⟨x, cap, cur, e, _, hh, _⟩
  · rw [e] at h; cases h
  · rw [e] at h
    obtain rfl : x = g := Option.some.inj h
    exact ⟨_, hh⟩
theorem keeps_own {E : TypeId} {size base n : Nat} {w w' : World} {v : Value} {xs : List Value} (ho : OR E size w base v n xs) (g : w.grownBy w' v.ownBlock) (B : Nat) : KeepsFrom B w w' :=
  ⟨World.grownBy.size g, fun k o hB hk hc => by
    refine (World.grownBy.block g k (Array.getElem?_eq_some_iff.1 hk).1 (fun e => ?_)).trans hk
    obtain ⟨cs, h2⟩ := own_cells ho e.symm
    rw [hk] at h2
    injection h2 with h2
    rw [h2] at hc
    cases hc⟩
theorem or_own {β : Type} {E : TypeId} {size base : Nat} {w w' : World} {v : Value} {n : Nat} {xs : List Value} {row : Option Nat} (h : OR E size w base v n xs) (hg : w.grownBy w' row) (hr : ∀ r, row = some r → ∃ o : Obj, w.heap[r]? = some o ∧ o.isCells = false) : OR E size w' base v n xs := by
  refine World.ownsRow.kept h hg ?_
  cases hv : v.ownBlock with
  | none => exact .inl rfl
  | some g =>
    refine .inr fun e => ?_
    obtain ⟨o, h1, h2⟩ := hr g e.symm
    obtain ⟨cs, h3⟩ := own_cells h hv
    rw [h1] at h3
    injection h3 with h3
    rw [h3] at h2
    cases h2
/-- The paths beneath. -/
def belowP (t : List Nd) (n : Nd) : List (List UInt8) := if n.kind = 1 then (kids t n.p).map (·.p) else []
def BlI (w : World) (base : Nat) (pre : List Nd) (W : World) : Prop := ∃ A c, Blk W (w.heap.size + 1) 50 #[.slice A pre.length c] ∧ OR 9 1 W base (.slice A pre.length c) pre.length (strs (pre.map (·.p))) ∧ Below w.heap.size w W ∧ base ≤ W.heap.size
theorem blI_own (w : World) (base B : Nat) (hB : w.heap.size ≤ B) : OwnFrom B (BlI w base) := fun s X Y row ⟨A, c, h1, h2, h3, h4⟩ hg hr =>
  ⟨A, c, blk_own (fun (_ : List Nd) => #[.slice A s.length c]) B s X Y row h1 hg hr, or_own (β := Nd) h2 hg (fun r e => (hr r e).2), ownFrom_below (β := List Nd) (Nat.le_refl _) hB s X Y row h3 hg hr, Nat.le_trans h4 hg.size⟩
theorem blI_bears (w : World) (base b : Nat) (h1 : w.heap.size + 1 ≠ b) (h2 : b < base) (h3 : w.heap.size ≤ b) : Bears b (BlI w base) := fun s X Y ⟨A, c, k1, k2, k3, k4⟩ k =>
  ⟨A, c, k.blk k1 h1, or_kb k2 k h2, below_kb k3 k h3, Nat.le_trans k4 k.size⟩
theorem BlI.gr {w W W' : World} {base : Nat} {pre : List Nd} (h : BlI w base pre W) (g : Gr W W') : BlI w base pre W' := by
  obtain ⟨A, c, h1, h2, h3, h4⟩ := h
  exact ⟨A, c, blk_more h1 g, OR.below h2 g, Below.trans h3 (Below.mono g h3.size), Nat.le_trans h4 g.size⟩
abbrev blTmps (A : Option Addr) (c : Nat) (l : List Nd) (n : Nd) (s : Nat) (g : Nat) (x : Nd) : Array Value := #[.slice A l.length c, nV n, undef, .pointer (some ⟨s, 0, none⟩), .slice none 0 0, .pointer (some ⟨s + 1, 0, none⟩), .pointer (some ⟨g, 0, none⟩), .pointer (some ⟨s, 1, none⟩), .int .i64 n.kind, .bool false, .slice A l.length c, .pointer (some ⟨s, 0, none⟩), str n.p,
  .func (.func 60) #[] #[.pointer (some ⟨s + 1 + 1, 0, none⟩), .pointer (some ⟨s + 1 + 1 + 1, 0, none⟩)], nV x, undef, undef, undef, undef, undef, undef]
def BlA (w : World) (A : Option Addr) (c : Nat) (l : List Nd) (n : Nd) (base : Nat) (pre : List Nd) (x : Nd) (a : Act) (W : World) : Prop := ∃ g, a = { tmps := blTmps A c l n w.heap.size g x, defers := [] } ∧ Blk W g 34 (ndA x) ∧ BlI w base pre W
def OutT (w : World) (L : List (List UInt8)) : Ending → World → Prop := fun e w' => ∃ A c, e = .returned (.slice A L.length c) ∧ OR 9 1 w' w.heap.size (.slice A L.length c) L.length (strs L) ∧ Gr w w'
set_option maxRecDepth 100000 in
set_option maxHeartbeats 4000000 in
theorem below_any (A : Option Addr) (c : Nat) (l : List Nd) (hf : Fit l) (n : Nd) (w : World) (h : NR w w.heap.size A l) :
    Calls Try.prog 23 #[.slice A l.length c, nV n] w (OutT w (belowP l n)) := by
  refine (callsIn_wide (n := 5)).1 ?_
  have hl1 := hf.1
  obtain ⟨L, hL⟩ : ∃ L, belowP l n = L := ⟨_, rfl⟩
  rw [hL]
  have b0 := Blk.new w 34 (ndA n)
  have g0 := (Gr.refl w).alloc (.cells (ndA n) 34)
  have b1 := Blk.new (w.alloc (.cells (ndA n) 34)) 50 #[.slice none 0 0]
  rw [World.size_alloc] at b1
  have g1 := g0.alloc (.cells #[.slice none 0 0] 50)
  have nb := b0.alloc (.cells #[.slice none 0 0] 50)
  have d0 := nb.cell 0
  have d1 := nb.cell 1
  have z1 : ((w.alloc (.cells (ndA n) 34)).alloc (.cells #[.slice none 0 0] 50)).heap.size = w.heap.size + 1 + 1 := by simp
  replace b1 := Lib.hid b1
  replace g1 := Lib.hid g1
  replace h := Lib.hid h
  clear b0 g0 nb
  refine callsIn_of_wp_marks Try.func23 rfl trivial ?_ rfl
  simp only [Try.ntmps23, List.size_toArray, List.length_cons, List.length_nil, Nat.reduceAdd, Nat.reduceSub, Array.replicate_succ, Array.replicate_zero, List.push_toArray, List.append_toArray, List.nil_append, List.cons_append]
  refine wpIn_wide.2 ?_
  by_cases hk : n.kind = 1
  · have hkb : (n.kind != 1) = false := by simpa using hk
    have hLk : L = (kids l n.p).map (·.p) := by rw [← hL]; exact if_pos hk
    have hki := Lib.hid (treeKids_any A l.length c n.p ((w.alloc (.cells (ndA n) 34)).alloc (.cells #[.slice none 0 0] 50)))
    rw [z1] at hki
    replace z1 := Lib.hid z1
    replace hLk := Lib.hid hLk
    clear hL hk
    go_wp2_with fail
    go_at_call 40
    refine hki.out.mono ?_
    rintro e w3 ⟨rfl, a3, p3, g3, z3⟩
    have m1 := Lib.hid (blk_more b1.out g3)
    have G3 := Gr.trans g1.out g3
    have h3 := Lib.hid (h.out.below G3)
    replace G3 := Lib.hid G3
    replace a3 := Lib.hid a3
    replace p3 := Lib.hid p3
    clear hki b1 g1 g3 h d0 d1 z1
    go_wp2
    refine (wpIn_wide (n := 5)).1 ?_
    refine wpIn_rangeBoxA (b := w.heap.size + 1 + 1 + 1) (by omega) rfl (by omega) (gf := 60) (lb := #[.pointer (some ⟨w.heap.size + 1 + 1, 0, none⟩), .pointer (some ⟨w.heap.size + 1 + 1 + 1, 0, none⟩)]) rfl trivial (enters_of Try.func60 (by kernel_rfl) rfl)
      (Kp := Ke (w.heap.size + 1) (w.heap.size + 4)) (fun W hW => kids_seq 4 (by omega) (w.heap.size + 1 + 1) (w.heap.size + 1 + 1 + 1) (w.heap.size + 1) (w.heap.size + 4) A c l n.p hf (by omega) (by omega) (by omega) (by omega) w.heap.size (by omega) (by omega) W (by have := hW.size; omega) (a3.out.below hW (by omega)) (p3.out.below hW (by omega)) (h3.out.below (hW.mono (by omega))))
      Ke.trans (fun W l o hl => Ke.putObj W l o (by omega)) (fun _ => rfl)
      (BlI w (w.heap.size + 4)) (fun _ _ _ => False) (blI_own w _ _ (by omega)) (fun c s X Y row h hg hr => h) (blI_bears w _ _ (by omega) (by omega) (by omega)) (fun c s X Y h k => h)
      ⟨none, 0, m1.out, World.ownsRow_nil _ _ _ _, G3.out, by omega⟩ (BlA w A c l n (w.heap.size + 4)) (fun pre x a' s X Y row ⟨g, e, hb, hi⟩ hg hr => ⟨g, e, blk_own (fun (_ : List Nd) => ndA x) _ s X Y row hb hg hr, blI_own w _ _ (by omega) pre X Y row hi hg hr⟩) ?assign ?body ?done ?stop
    case assign =>
      intro lp pre x W K hI hlen hK
      have bn := Lib.hid (Blk.new W 34 (ndA noNd))
      have hWs : w.heap.size + 4 ≤ W.heap.size := by obtain ⟨A1, c1, _, _, _, h4⟩ := hI; exact h4
      replace hI := Lib.hid hI
      dsimp only
      gi_wp2_with (first
        | ((with_reducible refine wpListIn_isStore 34 (.tmp 6) (.tmp 14) rfl ?_); refine wpListIn_store_blk rfl 34 (.tmp 6) (.tmp 14) rfl W.heap.size (ndA x) rfl rfl 34 (ndA noNd) bn.out (nodeInfo _ _ _ _ _) rfl (by simp [Value.oneCell']) ?_; intro w9 n9 k9 z9))
      exact hK _ _ (gr_from (Kb.new k9) _) (Ke.of_gr (Kb.new k9) hWs) ⟨W.heap.size, rfl, n9, hI.out.gr (Kb.new k9)⟩
    case body =>
      rintro lp pre x a' W ⟨gx, rfl, hn, A1, c1, k1, ho, hB, hs⟩ hlen
      have hpl : pre.length ≤ 1000 := by have := kids_len l n.p; omega
      obtain ⟨m, hm⟩ : ∃ m, pre.length = m := ⟨_, rfl⟩
      rw [hm] at k1 ho hpl
      have y0 := hn.cell 0
      have x0 := k1.cell 0
      have gA := (Gr.refl W).alloc (.cells #[str x.p] 9)
      have oA := Lib.hid (OR.below ho gA)
      have kA := Lib.hid (blk_more k1 gA)
      have nA := Lib.hid (new_str W x.p)
      have GA := Lib.hid gA
      replace hB := Lib.hid hB
      replace hm := Lib.hid hm
      clear m1 G3 a3 p3 h3 hlen gA ho k1 hn
      gi_wp2_with (first
        | ((with_reducible refine wpListIn_isApp (.tmp 15) (.tmp 18) 50 rfl ?_); refine wpListIn_append_rowsG (base := w.heap.size + 4) (v := .slice A1 m c1) rfl (.tmp 15) (.tmp 18) 50 rfl Try.underlying50 strRow rfl (by exact oA.out) (W.heap.size + 1) (some ⟨W.heap.size, 0, none⟩) 1 1 (strs [x.p]) rfl (by exact nA.out) (by simp [strs, Value.oneCell']) (by unfold maxLen; omega) (by omega) (by rw [World.size_alloc]; omega) (strs ((pre ++ [x]).map (·.p))) (by rw [List.map_append, strs_app]; rfl) (m + 1) rfl ?_; intro A2 c2 w2 o2 b2 g2; have k2 := kA.out.below b2 (by omega); have x0' := k2.cell 0; have f0' := k2.frozen 0; have gk := Lib.hid (keeps_own oA.out g2 w3.heap.size); have kp := Lib.hid (Ke.grown (g := w.heap.size + 1) (n₀ := w.heap.size + 4) g2 (by rw [World.size_alloc]; omega) (fun r e => .inr (World.ownsRow.lt oA.out r e).1)); replace k2 := Lib.hid k2; replace o2 := Lib.hid o2; replace b2 := Lib.hid b2; clear g2 oA kA nA x0 y0))
      have s2 := b2.out.size
      rw [World.size_alloc] at s2
      have hml : (pre ++ [x]).length = m + 1 := by rw [List.length_append, hm.out]; rfl
      refine ⟨((gr_from GA.out _).trans gk.out).trans ((KeepsOthers.setCell _ _ _).from _), ((Ke.of_gr GA.out (by omega)).trans kp.out).trans (Ke.setCell _ _ _), A2, c2, ?_, ?_, ?_, ?_⟩
      · rw [hml]; exact k2.out.set_ 0 _
      · rw [hml]
        exact or_kb o2.out ((Kb.refl (w.heap.size + 1) _).set 0 _) (by omega)
      · exact below_kb (Below.trans hB.out (Below.trans (Below.mono GA.out hB.out.size) (Below.mono b2.out (by omega)))) ((Kb.refl (w.heap.size + 1) _).set 0 _) (by omega)
      · rw [World.size_setCell]; omega
    case done =>
      rintro D ys W hD rfl ⟨A1, c1, k1, ho, hB, hs⟩ hK
      have x0 := k1.cell 0
      have hLe := hLk.out
      have hll : (kids l n.p).length = L.length := by rw [hLe, List.length_map]
      rw [← hLe, hll] at ho
      rw [hll] at x0
      replace ho := Lib.hid ho
      replace hB := Lib.hid hB
      replace hK := Lib.hid hK
      clear hLk hLe hll k1 m1 G3 a3 p3 h3
      rename_i hk
      refine hk _ _ ?_
      clear hk
      go_wp2
      refine ⟨by simp, .inl ⟨_, _, rfl, run_takeDeferred hK.out, ?_⟩⟩
      refine ⟨.slice A1 L.length c1, ?_, ⟨A1, c1, rfl, ?_, hB.out.trans (belowK_b (w := w) (Nat.le_refl _) _ D _ _ (by omega) hK.out rfl rfl)⟩⟩
      · simp [results, Try.f23, go_sem]
      · exact OR.base_le (or_own (β := Nd) ho.out (grownBy_putObj' _ D (.deferred none)) (fun r e => by cases e; exact ⟨_, hK.out, rfl⟩)) (by omega)
    case stop =>
      rintro D cc pre W hD hj h hK
      exact h.elim
  · have hkb : (n.kind != 1) = true := by simpa using hk
    obtain rfl : L = [] := by rw [← hL]; exact if_neg hk
    clear hL hk z1
    go_wp2
    exact ⟨.slice none 0 0, by simp [results, Try.f23, go_sem], none, 0, rfl, World.ownsRow_nil _ _ _ _, g1.out⟩
end Tr
end Go.Proofs.Yteadcblmomngpaa
namespace Go.Proofs.Yteadcblmomngpaa
open Go Go.RowKit Go.Shelf W Pth
namespace Tr
/-- Is what is at two paths alike? d: more than the names that are left. -/
def likeF (a b : List Nd) : Nat → List UInt8 → List UInt8 → Bool
  | 0, _, _ => false
  | d + 1, p, q => match atP a p, atP b q with
    | some x, some y => (x.kind == y.kind && x.data == y.data) && (decide ((belowP a x).length = (belowP b y).length) && ((belowP a x).zip (belowP b y)).all fun s => base s.1 == base s.2 && likeF a b d s.1 s.2)
    | _, _ => false
def likeP (a b : List Nd) (p q : List UInt8) : Bool := likeF a b 17 p q
theorem like_none1 {a b : List Nd} {d : Nat} {p q : List UInt8} (h : atP a p = none) : likeF a b (d + 1) p q = false := by rw [likeF, h]
theorem like_none2 {a b : List Nd} {d : Nat} {p q : List UInt8} (h : atP b q = none) : likeF a b (d + 1) p q = false := by
  rw [likeF, h]
  cases atP a p <;> rfl
theorem like_some {a b : List Nd} {d : Nat} {p q : List UInt8} {x y : Nd} (h : atP a p = some x) (h2 : atP b q = some y) : likeF a b (d + 1) p q = ((x.kind == y.kind && x.data == y.data) && (decide ((belowP a x).length = (belowP b y).length) && ((belowP a x).zip (belowP b y)).all fun s => base s.1 == base s.2 && likeF a b d s.1 s.2)) := by rw [likeF, h, h2]
theorem below_depth {t : List Nd} {n : Nd} {s : List UInt8} (h : s ∈ belowP t n) : (names s).length = (names n.p).length + 1 ∧ ∃ x ∈ t, x.p = s := by
  unfold belowP at h
  split at h
  · obtain ⟨x, hx, rfl⟩ := List.mem_map.1 h
    exact ⟨kids_depth hx, x, kids_mem hx, rfl⟩
  · cases h
theorem below_len (t : List Nd) (n : Nd) : (belowP t n).length ≤ t.length := by
  unfold belowP
  split
  · rw [List.length_map]; exact kids_len t n.p
  · simp
theorem findV_tuple (F : Option Nd) : ∃ (x : Nd) (o : Bool), findV F = .tuple #[nV x, .bool o] ∧ (F = none → o = false) ∧ (∀ n, F = some n → x = n ∧ o = true) := by
  cases F with
  | none => exact ⟨noNd, false, rfl, (fun _ => rfl), (fun n h => by cases h)⟩
  | some n => exact ⟨n, true, rfl, (fun h => by cases h), (fun m h => by cases h; exact ⟨rfl, rfl⟩)⟩
set_option maxRecDepth 100000 in
set_option maxHeartbeats 8000000 in
theorem like_step (a b : List Nd) (A B : Option Addr) (ca cb : Nat) (ha : Fit a) (hb : Fit b) (d : Nat)
    (IH : ∀ p q w, 17 ≤ d + (names p).length → NR w w.heap.size A a → NR w w.heap.size B b → Calls Try.prog 9 #[.slice A a.length ca, str p, .slice B b.length cb, str q] w fun e w' => e = .returned (.bool (likeF a b d p q)) ∧ Gr w w')
    (p q : List UInt8) (w : World) (hd : 17 ≤ d + 1 + (names p).length) (hra : NR w w.heap.size A a) (hrb : NR w w.heap.size B b) :
    Calls Try.prog 9 #[.slice A a.length ca, str p, .slice B b.length cb, str q] w fun e w' => e = .returned (.bool (likeF a b (d + 1) p q)) ∧ Gr w w' := by
  have ha1 := ha.1
  have hb1 := hb.1
  obtain ⟨rr, hrr⟩ : ∃ rr, likeF a b (d + 1) p q = rr := ⟨_, rfl⟩
  rw [hrr]
  have hat := at_any A ca a p w hra (by omega)
  have hbt := fun w (h : NR w w.heap.size B b) => at_any B cb b q w h (by omega)
  obtain ⟨x, o1, hx, hx1, hx2⟩ := findV_tuple (atP a p)
  obtain ⟨y, o2, hy, hy1, hy2⟩ := findV_tuple (atP b q)
  rw [hx] at hat
  rw [hy] at hbt
  replace hat := Lib.hid hat
  replace hbt := Lib.hid hbt
  replace hrr := Lib.hid hrr
  replace hra := Lib.hid hra
  replace hrb := Lib.hid hrb
  replace hx1 := Lib.hid hx1
  replace hx2 := Lib.hid hx2
  replace hy1 := Lib.hid hy1
  replace hy2 := Lib.hid hy2
  replace IH := Lib.hid IH
  clear hx hy
  go_enter Try.func9, Try.ntmps9
  go_wp2_with fail
  go_at_call 22
  refine hat.out.mono ?_
  rintro e w1 ⟨rfl, g1⟩
  have bn := Lib.hid (Blk.new w1 34 (ndA noNd))
  replace g1 := Lib.hid g1
  clear hat
  go_wp2_with (first
    | ((with_reducible refine wpList_isStore 34 (.tmp 9) (.tmp 20) rfl ?_); refine wpList_store_blk rfl 34 (.tmp 9) (.tmp 20) rfl w1.heap.size (ndA x) rfl rfl 34 (ndA noNd) bn.out (nodeInfo _ _ _ _ _) rfl (by simp [Value.oneCell']) ?_; intro w2 n2 k2 z2; have G2 := Lib.hid (Gr.trans g1.out (Kb.new k2)); have bx := Lib.hid n2; clear n2 k2 z2 bn g1)
    | (go_at_call 22; fail))
  go_at_call 22
  refine (hbt.out _ (hrb.out.on G2.out)).mono ?_
  rintro e w3 ⟨rfl, g3⟩
  have bn := Lib.hid (Blk.new w3 34 (ndA noNd))
  have bx3 := Lib.hid (blk_more bx.out g3)
  have G3 := Lib.hid (Gr.trans G2.out g3)
  clear hbt g3 bx G2
  cases hA : atP a p with
  | none =>
    obtain rfl : rr = false := by rw [← hrr.out]; exact like_none1 hA
    obtain rfl : o1 = false := hx1.out hA
    clear hA hrr hx1 hx2 hy1 hy2 IH
    go_wp2_with (first
      | ((with_reducible refine wpList_isStore 34 (.tmp 11) (.tmp 26) rfl ?_); refine wpList_store_blk rfl 34 (.tmp 11) (.tmp 26) rfl w3.heap.size (ndA y) rfl rfl 34 (ndA noNd) bn.out (nodeInfo _ _ _ _ _) rfl (by simp [Value.oneCell']) ?_; intro w4 n4 k4 z4; have G4 := Lib.hid (Gr.trans G3.out (Kb.new k4)); clear n4 k4 z4 bn G3 bx3))
    go_ret
    exact ⟨rfl, G4.out⟩
  | some X =>
    obtain ⟨rfl, rfl⟩ := hx2.out X hA
    cases hB : atP b q with
    | none =>
      obtain rfl : rr = false := by rw [← hrr.out]; exact like_none2 hB
      obtain rfl : o2 = false := hy1.out hB
      clear hA hB hrr hx1 hx2 hy1 hy2 IH
      go_wp2_with (first
        | ((with_reducible refine wpList_isStore 34 (.tmp 11) (.tmp 26) rfl ?_); refine wpList_store_blk rfl 34 (.tmp 11) (.tmp 26) rfl w3.heap.size (ndA y) rfl rfl 34 (ndA noNd) bn.out (nodeInfo _ _ _ _ _) rfl (by simp [Value.oneCell']) ?_; intro w4 n4 k4 z4; have G4 := Lib.hid (Gr.trans G3.out (Kb.new k4)); clear n4 k4 z4 bn G3 bx3))
      go_ret
      exact ⟨rfl, G4.out⟩
    | some Y =>
      obtain ⟨rfl, rfl⟩ := hy2.out Y hB
      have hls := (like_some (d := d) hA hB).symm.trans hrr.out
      have hxp := (atP_some hA).2
      have hda := Lib.hid (fun s (hs : s ∈ belowP a x) => (show 17 ≤ d + (names s).length by have := (below_depth hs).1; rw [hxp] at this; omega))
      have hpa := Lib.hid (fun s (hs : s ∈ belowP a x) => (show s.length ≤ 90000 by obtain ⟨_, z, hz, rfl⟩ := below_depth hs; exact (ha.2 z hz).1))
      have hpb := Lib.hid (fun s (hs : s ∈ belowP b y) => (show s.length ≤ 90000 by obtain ⟨_, z, hz, rfl⟩ := below_depth hs; exact (hb.2 z hz).1))
      have hVl := below_len a x
      have hUl := below_len b y
      have hba := Lib.hid (fun w h => below_any A ca a ha x w h)
      have hbb := Lib.hid (fun w h => below_any B cb b hb y w h)
      obtain ⟨V, hV⟩ : ∃ V, belowP a x = V := ⟨_, rfl⟩
      obtain ⟨U, hU⟩ : ∃ U, belowP b y = U := ⟨_, rfl⟩
      rw [hV, hU] at hls
      rw [hV] at hda hpa hVl hba
      rw [hU] at hpb hUl hbb
      obtain ⟨xp, xk, xm, xt, xd⟩ := x
      obtain ⟨yp, yk, ym, yt, yd⟩ := y
      simp only at hls
      clear hA hB hrr hx1 hx2 hy1 hy2 hV hU hxp
      by_cases hk : xk = yk
      · subst hk
        by_cases hdt : xd = yd
        · subst hdt
          have hkk : (xk != xk) = false := by simp
          have hdd : (xd != xd) = false := by simp
          replace hls := Lib.hid hls
          have c0 := bx3.out.cell 1
          go_wp2_with (first
            | ((with_reducible refine wpList_isStore 34 (.tmp 11) (.tmp 26) rfl ?_); refine wpList_store_blk rfl 34 (.tmp 11) (.tmp 26) rfl w3.heap.size (ndA ⟨yp, xk, ym, yt, xd⟩) rfl rfl 34 (ndA noNd) bn.out (nodeInfo _ _ _ _ _) rfl (by simp [Value.oneCell']) ?_; intro w4 n4 k4 z4; have G4 := Lib.hid (Gr.trans G3.out (Kb.new k4)); have x4 := blk_more bx3.out (Kb.new k4); have y1 := x4.cell 1; have y4 := x4.cell 4; have u1 := n4.cell 1; have u4 := n4.cell 4; have bx4 := Lib.hid x4; have by4 := Lib.hid n4; clear x4 n4 k4 z4 bn G3 bx3 c0))
          have na4 := Lib.hid (hra.out.on G4.out)
          have nb4 := Lib.hid (hrb.out.on G4.out)
          have xA := bx4
          have yA := by4
          clear y1 y4 u1 u4 hkk hdd
          refine region_grow rfl (by kernel_rfl) ?_
          refine GW.mv rfl trivial (.inl rfl) (kn0 (t := 0) (c := .slice A a.length ca) (by kernel_rfl) rfl) (eqv_lasts _) ?_
          refine GW.p1 (.agg #[str xp, .int .i64 xk, .int .i64 xm, .int .i64 xt, str xd]) rfl trivial (kn0 (t := 9) (c := .pointer (some ⟨w1.heap.size, 0, none⟩)) (by kernel_rfl) rfl) (fun ρ w' hρ hg => by simp [execOp, hρ, go_sem, (hg.cell (p := ⟨w1.heap.size, 0, none⟩) xA.out.lt).trans (xA.out.cell 0), (hg.cell (p := ⟨w1.heap.size, 1, none⟩) xA.out.lt).trans (xA.out.cell 1), (hg.cell (p := ⟨w1.heap.size, 2, none⟩) xA.out.lt).trans (xA.out.cell 2), (hg.cell (p := ⟨w1.heap.size, 3, none⟩) xA.out.lt).trans (xA.out.cell 3), (hg.cell (p := ⟨w1.heap.size, 4, none⟩) xA.out.lt).trans (xA.out.cell 4)]) ?_
          refine GW.call2 (isR 1 V.length (strs V)) rfl trivial rfl Try.func23 (by kernel_rfl) (by kernel_rfl) (isR_lasts _ _ _) (kn (t := 48) (j := 0) (by kernel_rfl)) (kn (t := 49) (j := 1) (by kernel_rfl)) (fun v u w' hg hv hu => ?_) ?_
          · obtain rfl : v = _ := hv
            obtain rfl : u = _ := hu
            refine (hba.out w' (na4.out.on hg)).mono ?_
            rintro e w9 ⟨A9, c9, rfl, o9, hg9⟩
            exact ⟨_, rfl, ⟨A9, c9, rfl, OR.reads o9⟩, hg9⟩
          refine GW.mv rfl trivial (.inl rfl) (kn0 (t := 2) (c := .slice B b.length cb) (by kernel_rfl) rfl) (eqv_lasts _) ?_
          refine GW.p1 (.agg #[str yp, .int .i64 xk, .int .i64 ym, .int .i64 yt, str xd]) rfl trivial (kn0 (t := 11) (c := .pointer (some ⟨w3.heap.size, 0, none⟩)) (by kernel_rfl) rfl) (fun ρ w' hρ hg => by simp [execOp, hρ, go_sem, (hg.cell (p := ⟨w3.heap.size, 0, none⟩) yA.out.lt).trans (yA.out.cell 0), (hg.cell (p := ⟨w3.heap.size, 1, none⟩) yA.out.lt).trans (yA.out.cell 1), (hg.cell (p := ⟨w3.heap.size, 2, none⟩) yA.out.lt).trans (yA.out.cell 2), (hg.cell (p := ⟨w3.heap.size, 3, none⟩) yA.out.lt).trans (yA.out.cell 3), (hg.cell (p := ⟨w3.heap.size, 4, none⟩) yA.out.lt).trans (yA.out.cell 4)]) ?_
          refine GW.call2 (isR 1 U.length (strs U)) rfl trivial rfl Try.func23 (by kernel_rfl) (by kernel_rfl) (isR_lasts _ _ _) (kn (t := 51) (j := 3) (by kernel_rfl)) (kn (t := 52) (j := 4) (by kernel_rfl)) (fun v u w' hg hv hu => ?_) ?_
          · obtain rfl : v = _ := hv
            obtain rfl : u = _ := hu
            refine (hbb.out w' (nb4.out.on hg)).mono ?_
            rintro e w9 ⟨A9, c9, rfl, o9, hg9⟩
            exact ⟨_, rfl, ⟨A9, c9, rfl, OR.reads o9⟩, hg9⟩
          refine GW.mv rfl trivial (.inr rfl) (kn (t := 50) (j := 2) (by kernel_rfl)) (isR_lasts _ _ _) ?_
          refine GW.mv rfl trivial (.inr rfl) (kn (t := 53) (j := 5) (by kernel_rfl)) (isR_lasts _ _ _) ?_
          refine GW.done (by simp) (by kernel_rfl) (fun w6 hg => ?_)
          rintro v0 - v1 - v2 - v3 - v4 - v5 - v6 h6 v7 h7
          simp only [GFin, Act.put, List.setIfInBounds_toArray, List.set_cons_succ, List.set_cons_zero]
          obtain ⟨Av, cv, rfl, hv⟩ := h6
          obtain ⟨Au, cu, rfl, hu⟩ := h7
          have G6 := Lib.hid (Gr.trans G4.out hg)
          have na := Lib.hid (na4.out.on hg)
          have nb := Lib.hid (nb4.out.on hg)
          replace hv := Lib.hid hv
          replace hu := Lib.hid hu
          clear hg na4 nb4 xA yA bx4 by4 hba hbb G4 hra hrb
          by_cases hlen : V.length = U.length
          · have hln : ((V.length : Int) != (V.length : Int)) = false := by simp
            have hu2 : Hid (Reads w6 w6.heap.size 1 Au V.length (strs U)) := Lib.hid (by rw [hlen]; exact hu.out)
            rw [← hlen]
            obtain ⟨f, hf⟩ : ∃ f : List UInt8 × List UInt8 → Bool, f = fun s => base s.1 == base s.2 && likeF a b d s.1 s.2 := ⟨_, rfl⟩
            have hz : rr = (V.zip U).all f := by rw [← hls.out, hf]; simp [hlen]
            have hzl : (V.zip U).length = V.length := by rw [List.length_zip, hlen]; omega
            have hzk : ∀ k (h : k < V.length), ∃ hz : k < (V.zip U).length, (V.zip U)[k] = (V[k], U[k]'(by omega)) := fun k h => ⟨by omega, List.getElem_zip⟩
            have hUk : ∀ k (h : k < V.length), (strs U)[k]? = some (str (U[k]'(by omega))) := fun k h => by unfold strs; rw [List.getElem?_map, List.getElem?_eq_getElem (by omega)]; rfl
            have hpb2 : ∀ k (h : k < V.length), (U[k]'(by omega)).length ≤ 90000 := fun k h => hpb.out _ (List.getElem_mem _)
            obtain ⟨Z, hZ⟩ : ∃ Z, V.zip U = Z := ⟨_, rfl⟩
            rw [hZ] at hz hzl hzk
            obtain ⟨UU, hUU⟩ : ∃ UU : Nat → List UInt8, UU = fun k => if h : k < V.length then U[k]'(by omega) else [] := ⟨_, rfl⟩
            have hzk' : Hid (∀ k (h : k < V.length), ∃ hz : k < Z.length, Z[k] = (V[k], UU k)) := Lib.hid (fun k h => by obtain ⟨h1, h2⟩ := hzk k h; exact ⟨h1, by rw [h2, hUU]; simp [h]⟩)
            have hUk' : Hid (∀ k (h : k < V.length), (strs U)[k]? = some (str (UU k)) ∧ (UU k).length ≤ 90000) := Lib.hid (fun k h => ⟨by rw [hUk k h, hUU]; simp [h], by have := hpb2 k h; rw [hUU]; simp [h]; exact this⟩)
            replace hz := Lib.hid hz
            replace hf := Lib.hid hf
            replace hzl := Lib.hid hzl
            clear hls hu hlen hzk hUk hpb2 hpb hUU hZ
            go_wp2
            go_loopw [15, 61] (fun _ v61 wr => ∃ k : Nat, k ≤ V.length ∧ v61 = .int .i64 (k : Int) ∧ Hid ((Z.take k).all f = true ∧ Gr w6 wr)) (fun _ v61 _ => V.length - (intOf v61).toNat)
            case atStart => exact ⟨0, by omega, rfl, Lib.hid ⟨rfl, Gr.refl _⟩⟩
            case round =>
              clear hln
              obtain ⟨k, hk, rfl, hst⟩ := hrel
              obtain ⟨hall, gz⟩ := hst.out
              clear hst
              by_cases hkl : k < V.length
              · have ij : (k : Int) < (V.length : Int) := by omega
                have kw : IntKind.i64.wrap ((k : Int) + 1) = (k : Int) + 1 := IntWalk.i64_in _ (by omega)
                obtain ⟨hzk1, hzk2⟩ := hzk'.out k hkl
                obtain ⟨hUk1, hUk2⟩ := hUk'.out k hkl
                obtain ⟨adv, uv, rfl, lv, ev, cv1⟩ := Reads.at_ (Reads.below hv.out gz) hkl
                obtain ⟨adu, uu, rfl, lu, eu, cu1⟩ := Reads.at_ (Reads.below hu2.out gz) hkl
                rw [hUk1] at eu
                obtain rfl := Option.some.inj eu
                have ev2 : (strs V)[k]? = some (str V[k]) := by unfold strs; rw [List.getElem?_map, List.getElem?_eq_getElem hkl]; rfl
                rw [ev2] at ev
                obtain rfl := Option.some.inj ev
                have sz := Below.size gz
                have lv2 : (adv.add k).block < wr.heap.size := by rw [block_of_add]; omega
                have lu2 : (adu.add k).block < wr.heap.size := by rw [block_of_add]; omega
                have hvm := hpa.out _ (List.getElem_mem hkl)
                have hvd := hda.out _ (List.getElem_mem hkl)
                have hnx : f Z[k] = true → (Z.take (k + 1)).all f = true := fun h => by rw [List.take_succ_eq_append_getElem hzk1, List.all_append, hall]; simpa using h
                have hbd : f Z[k] = false → rr = false := fun h => by rw [hz.out, ← List.take_append_drop (k + 1) Z, List.all_append, List.take_succ_eq_append_getElem hzk1, List.all_append]; simp [h]
                rw [hzk2] at hnx hbd
                obtain ⟨vk, hvk⟩ : ∃ vk, V[k] = vk := ⟨_, rfl⟩
                obtain ⟨uk, huk⟩ : ∃ uk, UU k = uk := ⟨_, rfl⟩
                rw [hvk] at hnx hbd hvm hvd cv1
                rw [huk] at hnx hbd hUk2 cu1
                have hbv := Lib.hid (fun w => base_any vk w (by omega))
                have hbu := Lib.hid (fun w => base_any uk w (by omega))
                have hih := Lib.hid (fun w' (g : Gr wr w') => IH.out vk uk w' hvd (na.out.on (Gr.trans gz g)) (nb.out.on (Gr.trans gz g)))
                have hfe : f (vk, uk) = (base vk == base uk && likeF a b d vk uk) := by rw [hf.out]
                rw [hfe] at hnx hbd
                obtain ⟨bv, hbv2⟩ : ∃ bv, base vk = bv := ⟨_, rfl⟩
                obtain ⟨bu, hbu2⟩ : ∃ bu, base uk = bu := ⟨_, rfl⟩
                obtain ⟨r1, hr1⟩ : ∃ r1, likeF a b d vk uk = r1 := ⟨_, rfl⟩
                rw [hbv2] at hnx hbd hbv
                rw [hbu2] at hnx hbd hbu
                rw [hr1] at hnx hbd hih
                replace gz := Lib.hid gz
                replace hnx := Lib.hid hnx
                replace hbd := Lib.hid hbd
                clear hzk2 hUk1 hall ev2 hvk huk hvm hvd hUk2 hfe hbv2 hbu2 hr1 hzk1 sz
                go_wp2
                refine region_grow rfl (by kernel_rfl) ?_
                by_cases hbe : bv = bu
                · subst hbe
                  have hbb : (bv != bv) = false := by simp
                  cases r1 with
                  | true =>
                    refine GW.mv rfl trivial (.inl rfl) (kn0 (t := 13) (c := .slice (some adv) V.length cv) (by kernel_rfl) rfl) (eqv_lasts _) ?_
                    refine GW.mv rfl trivial (.inl rfl) (kn0 (t := 15) (c := .int .i64 (k : Int)) (by kernel_rfl) rfl) (eqv_lasts _) ?_
                    refine GW.p2 (.pointer (some (adv.add k))) rfl trivial (kn (t := 64) (j := 0) (by kernel_rfl)) (kn (t := 65) (j := 1) (by kernel_rfl)) (fun ρ w' h1 h2 hg => by show ((Instr.indexAt 50 (ρ (.tmp 64)) (ρ (.tmp 65)) >>= fun v => pure (Next.value v)) : Sem Next).run Try.prog w' = _; rw [h1, h2, Sem.run_bind, run_idxR w' Try.underlying50 (size := 1) (by kernel_rfl) adv _ _ k hkl]; simp) ?_
                    refine GW.p1 (str vk) rfl trivial (kn (t := 66) (j := 2) (by kernel_rfl)) (fun ρ w' hρ hg => by simp [execOp, hρ, go_sem, (hg.cell (p := (adv.add k)) lv2).trans cv1]) ?_
                    refine GW.call1 (eqv (str bv)) rfl trivial rfl Try.func24 (by kernel_rfl) (by kernel_rfl) (eqv_lasts _) (kn (t := 67) (j := 3) (by kernel_rfl)) (fun v w' hg hv => ?_) ?_
                    · obtain rfl : v = _ := hv
                      refine (hbv.out w').mono ?_
                      rintro e w9 ⟨rfl, hg9⟩
                      exact ⟨_, rfl, rfl, hg9⟩
                    refine GW.mv rfl trivial (.inl rfl) (kn0 (t := 14) (c := .slice (some adu) V.length cu) (by kernel_rfl) rfl) (eqv_lasts _) ?_
                    refine GW.mv rfl trivial (.inl rfl) (kn0 (t := 15) (c := .int .i64 (k : Int)) (by kernel_rfl) rfl) (eqv_lasts _) ?_
                    refine GW.p2 (.pointer (some (adu.add k))) rfl trivial (kn (t := 69) (j := 5) (by kernel_rfl)) (kn (t := 70) (j := 6) (by kernel_rfl)) (fun ρ w' h1 h2 hg => by show ((Instr.indexAt 50 (ρ (.tmp 69)) (ρ (.tmp 70)) >>= fun v => pure (Next.value v)) : Sem Next).run Try.prog w' = _; rw [h1, h2, Sem.run_bind, run_idxR w' Try.underlying50 (size := 1) (by kernel_rfl) adu _ _ k hkl]; simp) ?_
                    refine GW.p1 (str uk) rfl trivial (kn (t := 71) (j := 7) (by kernel_rfl)) (fun ρ w' hρ hg => by simp [execOp, hρ, go_sem, (hg.cell (p := (adu.add k)) lu2).trans cu1]) ?_
                    refine GW.call1 (eqv (str bv)) rfl trivial rfl Try.func24 (by kernel_rfl) (by kernel_rfl) (eqv_lasts _) (kn (t := 72) (j := 8) (by kernel_rfl)) (fun v w' hg hv => ?_) ?_
                    · obtain rfl : v = _ := hv
                      refine (hbu.out w').mono ?_
                      rintro e w9 ⟨rfl, hg9⟩
                      exact ⟨_, rfl, rfl, hg9⟩
                    refine GW.bin (.bool false) rfl trivial rfl (kn (t := 68) (j := 4) (by kernel_rfl)) (kn (t := 73) (j := 9) (by kernel_rfl)) (fun w' => by simp [go_sem]) ?_
                    refine GW.mv rfl trivial (.inl rfl) (kn (t := 74) (j := 10) (by kernel_rfl)) (eqv_lasts _) ?_
                    refine GW.mv rfl ⟨75, by kernel_rfl, by kernel_rfl, fun _ _ h => h⟩ (.inl rfl) (kn0 (t := 0) (c := .slice A a.length ca) (by kernel_rfl) rfl) (eqv_lasts _) ?_
                    refine GW.mv rfl ⟨75, by kernel_rfl, by kernel_rfl, fun _ _ h => h⟩ (.inl rfl) (kn0 (t := 13) (c := .slice (some adv) V.length cv) (by kernel_rfl) rfl) (eqv_lasts _) ?_
                    refine GW.mv rfl ⟨75, by kernel_rfl, by kernel_rfl, fun _ _ h => h⟩ (.inl rfl) (kn0 (t := 15) (c := .int .i64 (k : Int)) (by kernel_rfl) rfl) (eqv_lasts _) ?_
                    refine GW.p2 (.pointer (some (adv.add k))) rfl ⟨75, by kernel_rfl, by kernel_rfl, fun _ _ h => h⟩ (kn (t := 77) (j := 13) (by kernel_rfl)) (kn (t := 78) (j := 14) (by kernel_rfl)) (fun ρ w' h1 h2 hg => by show ((Instr.indexAt 50 (ρ (.tmp 77)) (ρ (.tmp 78)) >>= fun v => pure (Next.value v)) : Sem Next).run Try.prog w' = _; rw [h1, h2, Sem.run_bind, run_idxR w' Try.underlying50 (size := 1) (by kernel_rfl) adv _ _ k hkl]; simp) ?_
                    refine GW.p1 (str vk) rfl ⟨75, by kernel_rfl, by kernel_rfl, fun _ _ h => h⟩ (kn (t := 79) (j := 15) (by kernel_rfl)) (fun ρ w' hρ hg => by simp [execOp, hρ, go_sem, (hg.cell (p := (adv.add k)) lv2).trans cv1]) ?_
                    refine GW.mv rfl ⟨75, by kernel_rfl, by kernel_rfl, fun _ _ h => h⟩ (.inl rfl) (kn0 (t := 2) (c := .slice B b.length cb) (by kernel_rfl) rfl) (eqv_lasts _) ?_
                    refine GW.mv rfl ⟨75, by kernel_rfl, by kernel_rfl, fun _ _ h => h⟩ (.inl rfl) (kn0 (t := 14) (c := .slice (some adu) V.length cu) (by kernel_rfl) rfl) (eqv_lasts _) ?_
                    refine GW.mv rfl ⟨75, by kernel_rfl, by kernel_rfl, fun _ _ h => h⟩ (.inl rfl) (kn0 (t := 15) (c := .int .i64 (k : Int)) (by kernel_rfl) rfl) (eqv_lasts _) ?_
                    refine GW.p2 (.pointer (some (adu.add k))) rfl ⟨75, by kernel_rfl, by kernel_rfl, fun _ _ h => h⟩ (kn (t := 82) (j := 18) (by kernel_rfl)) (kn (t := 83) (j := 19) (by kernel_rfl)) (fun ρ w' h1 h2 hg => by show ((Instr.indexAt 50 (ρ (.tmp 82)) (ρ (.tmp 83)) >>= fun v => pure (Next.value v)) : Sem Next).run Try.prog w' = _; rw [h1, h2, Sem.run_bind, run_idxR w' Try.underlying50 (size := 1) (by kernel_rfl) adu _ _ k hkl]; simp) ?_
                    refine GW.p1 (str uk) rfl ⟨75, by kernel_rfl, by kernel_rfl, fun _ _ h => h⟩ (kn (t := 84) (j := 20) (by kernel_rfl)) (fun ρ w' hρ hg => by simp [execOp, hρ, go_sem, (hg.cell (p := (adu.add k)) lu2).trans cu1]) ?_
                    refine GW.call4 (eqv (.bool true)) rfl ⟨75, by kernel_rfl, by kernel_rfl, fun _ _ h => h⟩ rfl Try.func9 (by kernel_rfl) (by kernel_rfl) (eqv_lasts _) (kn (t := 76) (j := 12) (by kernel_rfl)) (kn (t := 80) (j := 16) (by kernel_rfl)) (kn (t := 81) (j := 17) (by kernel_rfl)) (kn (t := 85) (j := 21) (by kernel_rfl)) (fun v u s r w' hg hv hu hs' hr' => ?_) ?_
                    · obtain rfl : v = _ := hv
                      obtain rfl : u = _ := hu
                      obtain rfl : s = _ := hs'
                      obtain rfl : r = _ := hr'
                      refine (hih.out w' hg).mono ?_
                      rintro e w9 ⟨rfl, hg9⟩
                      exact ⟨_, rfl, rfl, hg9⟩
                    refine GW.p1 (.bool false) rfl ⟨75, by kernel_rfl, by kernel_rfl, fun _ _ h => h⟩ (kn (t := 86) (j := 22) (by kernel_rfl)) (fun ρ w' hρ hg => by simp [execOp, hρ, go_sem]) ?_
                    refine GW.pick (b := false) rfl trivial rfl (kn (t := 75) (j := 11) (by kernel_rfl)) (kn (t := 87) (j := 23) (by kernel_rfl)) (eqv_lasts _) ?_
                    refine GW.done (by simp) (by kernel_rfl) (fun w' hg => ?_)
                    rintro v0 - v1 - v2 - v3 - v4 - v5 - v6 - v7 - v8 - v9 - v10 - v11 - v12 - v13 - v14 - v15 - v16 - v17 - v18 - v19 - v20 - v21 - v22 - v23 - v24 h24
                    obtain rfl : v24 = (.bool false) := h24
                    simp only [GFin, Act.put, List.setIfInBounds_toArray, List.set_cons_succ, List.set_cons_zero]
                    have gN := Lib.hid (Gr.trans gz.out hg)
                    have hN := Lib.hid (hnx.out (by simp))
                    clear hg gz hnx hbd hih hbv hbu cv1 cu1
                    go_wp2
                    exact ⟨⟨k + 1, by omega, by go_num, Lib.hid ⟨hN.out, gN.out⟩⟩, by simp [intOf]; omega⟩
                  | false =>
                    refine GW.mv rfl trivial (.inl rfl) (kn0 (t := 13) (c := .slice (some adv) V.length cv) (by kernel_rfl) rfl) (eqv_lasts _) ?_
                    refine GW.mv rfl trivial (.inl rfl) (kn0 (t := 15) (c := .int .i64 (k : Int)) (by kernel_rfl) rfl) (eqv_lasts _) ?_
                    refine GW.p2 (.pointer (some (adv.add k))) rfl trivial (kn (t := 64) (j := 0) (by kernel_rfl)) (kn (t := 65) (j := 1) (by kernel_rfl)) (fun ρ w' h1 h2 hg => by show ((Instr.indexAt 50 (ρ (.tmp 64)) (ρ (.tmp 65)) >>= fun v => pure (Next.value v)) : Sem Next).run Try.prog w' = _; rw [h1, h2, Sem.run_bind, run_idxR w' Try.underlying50 (size := 1) (by kernel_rfl) adv _ _ k hkl]; simp) ?_
                    refine GW.p1 (str vk) rfl trivial (kn (t := 66) (j := 2) (by kernel_rfl)) (fun ρ w' hρ hg => by simp [execOp, hρ, go_sem, (hg.cell (p := (adv.add k)) lv2).trans cv1]) ?_
                    refine GW.call1 (eqv (str bv)) rfl trivial rfl Try.func24 (by kernel_rfl) (by kernel_rfl) (eqv_lasts _) (kn (t := 67) (j := 3) (by kernel_rfl)) (fun v w' hg hv => ?_) ?_
                    · obtain rfl : v = _ := hv
                      refine (hbv.out w').mono ?_
                      rintro e w9 ⟨rfl, hg9⟩
                      exact ⟨_, rfl, rfl, hg9⟩
                    refine GW.mv rfl trivial (.inl rfl) (kn0 (t := 14) (c := .slice (some adu) V.length cu) (by kernel_rfl) rfl) (eqv_lasts _) ?_
                    refine GW.mv rfl trivial (.inl rfl) (kn0 (t := 15) (c := .int .i64 (k : Int)) (by kernel_rfl) rfl) (eqv_lasts _) ?_
                    refine GW.p2 (.pointer (some (adu.add k))) rfl trivial (kn (t := 69) (j := 5) (by kernel_rfl)) (kn (t := 70) (j := 6) (by kernel_rfl)) (fun ρ w' h1 h2 hg => by show ((Instr.indexAt 50 (ρ (.tmp 69)) (ρ (.tmp 70)) >>= fun v => pure (Next.value v)) : Sem Next).run Try.prog w' = _; rw [h1, h2, Sem.run_bind, run_idxR w' Try.underlying50 (size := 1) (by kernel_rfl) adu _ _ k hkl]; simp) ?_
                    refine GW.p1 (str uk) rfl trivial (kn (t := 71) (j := 7) (by kernel_rfl)) (fun ρ w' hρ hg => by simp [execOp, hρ, go_sem, (hg.cell (p := (adu.add k)) lu2).trans cu1]) ?_
                    refine GW.call1 (eqv (str bv)) rfl trivial rfl Try.func24 (by kernel_rfl) (by kernel_rfl) (eqv_lasts _) (kn (t := 72) (j := 8) (by kernel_rfl)) (fun v w' hg hv => ?_) ?_
                    · obtain rfl : v = _ := hv
                      refine (hbu.out w').mono ?_
                      rintro e w9 ⟨rfl, hg9⟩
                      exact ⟨_, rfl, rfl, hg9⟩
                    refine GW.bin (.bool false) rfl trivial rfl (kn (t := 68) (j := 4) (by kernel_rfl)) (kn (t := 73) (j := 9) (by kernel_rfl)) (fun w' => by simp [go_sem]) ?_
                    refine GW.mv rfl trivial (.inl rfl) (kn (t := 74) (j := 10) (by kernel_rfl)) (eqv_lasts _) ?_
                    refine GW.mv rfl ⟨75, by kernel_rfl, by kernel_rfl, fun _ _ h => h⟩ (.inl rfl) (kn0 (t := 0) (c := .slice A a.length ca) (by kernel_rfl) rfl) (eqv_lasts _) ?_
                    refine GW.mv rfl ⟨75, by kernel_rfl, by kernel_rfl, fun _ _ h => h⟩ (.inl rfl) (kn0 (t := 13) (c := .slice (some adv) V.length cv) (by kernel_rfl) rfl) (eqv_lasts _) ?_
                    refine GW.mv rfl ⟨75, by kernel_rfl, by kernel_rfl, fun _ _ h => h⟩ (.inl rfl) (kn0 (t := 15) (c := .int .i64 (k : Int)) (by kernel_rfl) rfl) (eqv_lasts _) ?_
                    refine GW.p2 (.pointer (some (adv.add k))) rfl ⟨75, by kernel_rfl, by kernel_rfl, fun _ _ h => h⟩ (kn (t := 77) (j := 13) (by kernel_rfl)) (kn (t := 78) (j := 14) (by kernel_rfl)) (fun ρ w' h1 h2 hg => by show ((Instr.indexAt 50 (ρ (.tmp 77)) (ρ (.tmp 78)) >>= fun v => pure (Next.value v)) : Sem Next).run Try.prog w' = _; rw [h1, h2, Sem.run_bind, run_idxR w' Try.underlying50 (size := 1) (by kernel_rfl) adv _ _ k hkl]; simp) ?_
                    refine GW.p1 (str vk) rfl ⟨75, by kernel_rfl, by kernel_rfl, fun _ _ h => h⟩ (kn (t := 79) (j := 15) (by kernel_rfl)) (fun ρ w' hρ hg => by simp [execOp, hρ, go_sem, (hg.cell (p := (adv.add k)) lv2).trans cv1]) ?_
                    refine GW.mv rfl ⟨75, by kernel_rfl, by kernel_rfl, fun _ _ h => h⟩ (.inl rfl) (kn0 (t := 2) (c := .slice B b.length cb) (by kernel_rfl) rfl) (eqv_lasts _) ?_
                    refine GW.mv rfl ⟨75, by kernel_rfl, by kernel_rfl, fun _ _ h => h⟩ (.inl rfl) (kn0 (t := 14) (c := .slice (some adu) V.length cu) (by kernel_rfl) rfl) (eqv_lasts _) ?_
                    refine GW.mv rfl ⟨75, by kernel_rfl, by kernel_rfl, fun _ _ h => h⟩ (.inl rfl) (kn0 (t := 15) (c := .int .i64 (k : Int)) (by kernel_rfl) rfl) (eqv_lasts _) ?_
                    refine GW.p2 (.pointer (some (adu.add k))) rfl ⟨75, by kernel_rfl, by kernel_rfl, fun _ _ h => h⟩ (kn (t := 82) (j := 18) (by kernel_rfl)) (kn (t := 83) (j := 19) (by kernel_rfl)) (fun ρ w' h1 h2 hg => by show ((Instr.indexAt 50 (ρ (.tmp 82)) (ρ (.tmp 83)) >>= fun v => pure (Next.value v)) : Sem Next).run Try.prog w' = _; rw [h1, h2, Sem.run_bind, run_idxR w' Try.underlying50 (size := 1) (by kernel_rfl) adu _ _ k hkl]; simp) ?_
                    refine GW.p1 (str uk) rfl ⟨75, by kernel_rfl, by kernel_rfl, fun _ _ h => h⟩ (kn (t := 84) (j := 20) (by kernel_rfl)) (fun ρ w' hρ hg => by simp [execOp, hρ, go_sem, (hg.cell (p := (adu.add k)) lu2).trans cu1]) ?_
                    refine GW.call4 (eqv (.bool false)) rfl ⟨75, by kernel_rfl, by kernel_rfl, fun _ _ h => h⟩ rfl Try.func9 (by kernel_rfl) (by kernel_rfl) (eqv_lasts _) (kn (t := 76) (j := 12) (by kernel_rfl)) (kn (t := 80) (j := 16) (by kernel_rfl)) (kn (t := 81) (j := 17) (by kernel_rfl)) (kn (t := 85) (j := 21) (by kernel_rfl)) (fun v u s r w' hg hv hu hs' hr' => ?_) ?_
                    · obtain rfl : v = _ := hv
                      obtain rfl : u = _ := hu
                      obtain rfl : s = _ := hs'
                      obtain rfl : r = _ := hr'
                      refine (hih.out w' hg).mono ?_
                      rintro e w9 ⟨rfl, hg9⟩
                      exact ⟨_, rfl, rfl, hg9⟩
                    refine GW.p1 (.bool true) rfl ⟨75, by kernel_rfl, by kernel_rfl, fun _ _ h => h⟩ (kn (t := 86) (j := 22) (by kernel_rfl)) (fun ρ w' hρ hg => by simp [execOp, hρ, go_sem]) ?_
                    refine GW.pick (b := false) rfl trivial rfl (kn (t := 75) (j := 11) (by kernel_rfl)) (kn (t := 87) (j := 23) (by kernel_rfl)) (eqv_lasts _) ?_
                    refine GW.done (by simp) (by kernel_rfl) (fun w' hg => ?_)
                    rintro v0 - v1 - v2 - v3 - v4 - v5 - v6 - v7 - v8 - v9 - v10 - v11 - v12 - v13 - v14 - v15 - v16 - v17 - v18 - v19 - v20 - v21 - v22 - v23 - v24 h24
                    obtain rfl : v24 = (.bool true) := h24
                    simp only [GFin, Act.put, List.setIfInBounds_toArray, List.set_cons_succ, List.set_cons_zero]
                    have gN := Lib.hid (Gr.trans G6.out (Gr.trans gz.out hg))
                    obtain rfl := hbd.out (by simp)
                    clear hg gz hnx hbd hih hbv hbu cv1 cu1
                    go_wp2
                    go_ret
                    exact ⟨rfl, gN.out⟩
                · have hbb : (bv != bu) = true := by simpa using hbe
                  refine GW.mv rfl trivial (.inl rfl) (kn0 (t := 13) (c := .slice (some adv) V.length cv) (by kernel_rfl) rfl) (eqv_lasts _) ?_
                  refine GW.mv rfl trivial (.inl rfl) (kn0 (t := 15) (c := .int .i64 (k : Int)) (by kernel_rfl) rfl) (eqv_lasts _) ?_
                  refine GW.p2 (.pointer (some (adv.add k))) rfl trivial (kn (t := 64) (j := 0) (by kernel_rfl)) (kn (t := 65) (j := 1) (by kernel_rfl)) (fun ρ w' h1 h2 hg => by show ((Instr.indexAt 50 (ρ (.tmp 64)) (ρ (.tmp 65)) >>= fun v => pure (Next.value v)) : Sem Next).run Try.prog w' = _; rw [h1, h2, Sem.run_bind, run_idxR w' Try.underlying50 (size := 1) (by kernel_rfl) adv _ _ k hkl]; simp) ?_
                  refine GW.p1 (str vk) rfl trivial (kn (t := 66) (j := 2) (by kernel_rfl)) (fun ρ w' hρ hg => by simp [execOp, hρ, go_sem, (hg.cell (p := (adv.add k)) lv2).trans cv1]) ?_
                  refine GW.call1 (eqv (str bv)) rfl trivial rfl Try.func24 (by kernel_rfl) (by kernel_rfl) (eqv_lasts _) (kn (t := 67) (j := 3) (by kernel_rfl)) (fun v w' hg hv => ?_) ?_
                  · obtain rfl : v = _ := hv
                    refine (hbv.out w').mono ?_
                    rintro e w9 ⟨rfl, hg9⟩
                    exact ⟨_, rfl, rfl, hg9⟩
                  refine GW.mv rfl trivial (.inl rfl) (kn0 (t := 14) (c := .slice (some adu) V.length cu) (by kernel_rfl) rfl) (eqv_lasts _) ?_
                  refine GW.mv rfl trivial (.inl rfl) (kn0 (t := 15) (c := .int .i64 (k : Int)) (by kernel_rfl) rfl) (eqv_lasts _) ?_
                  refine GW.p2 (.pointer (some (adu.add k))) rfl trivial (kn (t := 69) (j := 5) (by kernel_rfl)) (kn (t := 70) (j := 6) (by kernel_rfl)) (fun ρ w' h1 h2 hg => by show ((Instr.indexAt 50 (ρ (.tmp 69)) (ρ (.tmp 70)) >>= fun v => pure (Next.value v)) : Sem Next).run Try.prog w' = _; rw [h1, h2, Sem.run_bind, run_idxR w' Try.underlying50 (size := 1) (by kernel_rfl) adu _ _ k hkl]; simp) ?_
                  refine GW.p1 (str uk) rfl trivial (kn (t := 71) (j := 7) (by kernel_rfl)) (fun ρ w' hρ hg => by simp [execOp, hρ, go_sem, (hg.cell (p := (adu.add k)) lu2).trans cu1]) ?_
                  refine GW.call1 (eqv (str bu)) rfl trivial rfl Try.func24 (by kernel_rfl) (by kernel_rfl) (eqv_lasts _) (kn (t := 72) (j := 8) (by kernel_rfl)) (fun v w' hg hv => ?_) ?_
                  · obtain rfl : v = _ := hv
                    refine (hbu.out w').mono ?_
                    rintro e w9 ⟨rfl, hg9⟩
                    exact ⟨_, rfl, rfl, hg9⟩
                  refine GW.bin (.bool true) rfl trivial rfl (kn (t := 68) (j := 4) (by kernel_rfl)) (kn (t := 73) (j := 9) (by kernel_rfl)) (fun w' => by simp [go_sem, hbe]) ?_
                  refine GW.mv rfl trivial (.inl rfl) (kn (t := 74) (j := 10) (by kernel_rfl)) (eqv_lasts _) ?_
                  refine GW.skip rfl rfl (d := 75) (by kernel_rfl) (by kernel_rfl) (fun _ _ h => .inl h) ?_
                  refine GW.skip rfl rfl (d := 75) (by kernel_rfl) (by kernel_rfl) (fun _ _ h => .inl h) ?_
                  refine GW.skip rfl rfl (d := 75) (by kernel_rfl) (by kernel_rfl) (fun _ _ h => .inl h) ?_
                  refine GW.skip rfl rfl (d := 75) (by kernel_rfl) (by kernel_rfl) (fun _ _ h => .inl h) ?_
                  refine GW.skip rfl rfl (d := 75) (by kernel_rfl) (by kernel_rfl) (fun _ _ h => .inl h) ?_
                  refine GW.skip rfl rfl (d := 75) (by kernel_rfl) (by kernel_rfl) (fun _ _ h => .inl h) ?_
                  refine GW.skip rfl rfl (d := 75) (by kernel_rfl) (by kernel_rfl) (fun _ _ h => .inl h) ?_
                  refine GW.skip rfl rfl (d := 75) (by kernel_rfl) (by kernel_rfl) (fun _ _ h => .inl h) ?_
                  refine GW.skip rfl rfl (d := 75) (by kernel_rfl) (by kernel_rfl) (fun _ _ h => .inl h) ?_
                  refine GW.skip rfl rfl (d := 75) (by kernel_rfl) (by kernel_rfl) (fun _ _ h => .inl h) ?_
                  refine GW.skip rfl rfl (d := 75) (by kernel_rfl) (by kernel_rfl) (fun _ _ h => .inl h) ?_
                  refine GW.skip rfl rfl (d := 75) (by kernel_rfl) (by kernel_rfl) (fun _ _ h => .inl h) ?_
                  refine GW.pick (b := true) rfl trivial rfl (kn (t := 75) (j := 11) (by kernel_rfl)) (knc) (eqv_lasts _) ?_
                  refine GW.done (by simp) (by kernel_rfl) (fun w' hg => ?_)
                  rintro v0 - v1 - v2 - v3 - v4 - v5 - v6 - v7 - v8 - v9 - v10 - v11 - v12 - v13 - v14 - v15 - v16 - v17 - v18 - v19 - v20 - v21 - v22 - v23 - v24 h24
                  obtain rfl : v24 = (Value.bool true) := h24
                  simp only [GFin, Act.put, List.setIfInBounds_toArray, List.set_cons_succ, List.set_cons_zero]
                  have gN := Lib.hid (Gr.trans G6.out (Gr.trans gz.out hg))
                  obtain rfl := hbd.out (by simp [hbe])
                  clear hg gz hnx hbd hih hbv hbu cv1 cu1
                  go_wp2
                  go_ret
                  exact ⟨rfl, gN.out⟩
              · obtain rfl : k = V.length := by omega
                rw [← hzl.out, List.take_length] at hall
                obtain rfl : rr = true := hz.out.trans hall
                have gN := Lib.hid (Gr.trans G6.out gz)
                clear hall hz gz
                go_wp2
                go_ret
                exact ⟨rfl, gN.out⟩
          · have hln : ((V.length : Int) != (U.length : Int)) = true := by
              have : (V.length : Int) ≠ (U.length : Int) := fun e => hlen (by omega)
              simpa using this
            obtain rfl : rr = false := by rw [← hls.out]; simp [hlen]
            clear hls hlen
            go_wp2
            go_ret
            exact ⟨rfl, G6.out⟩
        · have hkk : (xk != xk) = false := by simp
          have hdd : (xd == yd) = false := by simpa using hdt
          obtain rfl : rr = false := by rw [← hls]; simp [hdt]
          clear hls
          go_wp2_with (first
            | ((with_reducible refine wpList_isStore 34 (.tmp 11) (.tmp 26) rfl ?_); refine wpList_store_blk rfl 34 (.tmp 11) (.tmp 26) rfl w3.heap.size (ndA ⟨yp, xk, ym, yt, yd⟩) rfl rfl 34 (ndA noNd) bn.out (nodeInfo _ _ _ _ _) rfl (by simp [Value.oneCell']) ?_; intro w4 n4 k4 z4; have G4 := Lib.hid (Gr.trans G3.out (Kb.new k4)); have x4 := blk_more bx3.out (Kb.new k4); have y1 := x4.cell 1; have y4 := x4.cell 4; have u1 := n4.cell 1; have u4 := n4.cell 4; clear x4 n4 k4 z4 bn G3 bx3))
          go_ret
          exact ⟨rfl, G4.out⟩
      · have hkk : (xk != yk) = true := by simpa using hk
        obtain rfl : rr = false := by rw [← hls]; simp [hk]
        clear hls
        go_wp2_with (first
          | ((with_reducible refine wpList_isStore 34 (.tmp 11) (.tmp 26) rfl ?_); refine wpList_store_blk rfl 34 (.tmp 11) (.tmp 26) rfl w3.heap.size (ndA ⟨yp, yk, ym, yt, yd⟩) rfl rfl 34 (ndA noNd) bn.out (nodeInfo _ _ _ _ _) rfl (by simp [Value.oneCell']) ?_; intro w4 n4 k4 z4; have G4 := Lib.hid (Gr.trans G3.out (Kb.new k4)); have x4 := blk_more bx3.out (Kb.new k4); have y1 := x4.cell 1; have y4 := x4.cell 4; have u1 := n4.cell 1; have u4 := n4.cell 4; clear x4 n4 k4 z4 bn G3 bx3))
        go_ret
        exact ⟨rfl, G4.out⟩
theorem like_any (a b : List Nd) (A B : Option Addr) (ca cb : Nat) (ha : Fit a) (hb : Fit b) : ∀ (d : Nat) (p q : List UInt8) (w : World), 17 ≤ d + (names p).length → NR w w.heap.size A a → NR w w.heap.size B b →
    Calls Try.prog 9 #[.slice A a.length ca, str p, .slice B b.length cb, str q] w fun e w' => e = .returned (.bool (likeF a b d p q)) ∧ Gr w w' := by
  intro d
  induction d with
  | zero => intro p q w h; have := names_len16 p; omega
  | succ d ih => exact fun p q w hd h1 h2 => like_step a b A B ca cb ha hb d ih p q w hd h1 h2
end Tr
end Go.Proofs.Yteadcblmomngpaa
namespace Go.Proofs.Yteadcblmomngpaa
open Go Go.RowKit W Pth
namespace Tr
abbrev Nms := List (List UInt8)
/-- What follows N in M. -/
def dn : Nms → Nms → Option Nms
  | [], M => some M
  | a :: N, b :: M => if a = b then dn N M else none
  | _ :: _, [] => none
theorem dn_some : ∀ {N M r : Nms}, dn N M = some r ↔ M = N ++ r
  | [], M, r => by simp [dn]
  | a :: N, b :: M, r => by
    unfold dn
    by_cases h : a = b
    · rw [if_pos h, dn_some, h]; simp
    · rw [if_neg h]
      refine ⟨(fun e => by cases e), fun e => ?_⟩
      rw [List.cons_append] at e
      injection e with e _
      exact absurd e.symm h
  | a :: N, [], r => by simp [dn]
theorem dn_app : ∀ (N N' M : Nms), dn (N ++ N') M = (dn N M).bind (dn N')
  | [], N', M => rfl
  | a :: N, N', b :: M => by
    rw [List.cons_append, dn, dn]
    by_cases h : a = b
    · rw [if_pos h, if_pos h, dn_app]
    · rw [if_neg h, if_neg h]; rfl
  | a :: N, N', [] => rfl
abbrev Rl := Nms × Int × List UInt8
def nonE : Rl → Option Rl := fun x => match x.1 with | [] => none | _ :: _ => some x
/-- All within a path, the node there too. -/
def relE (t : List Nd) (N : Nms) : List Rl := t.filterMap fun n => (dn N (names n.p)).map fun r => (r, n.kind, n.data)
def rel (t : List Nd) (N : Nms) : List Rl := (relE t N).filterMap nonE
def down (M : Nms) : Rl → Option Rl := fun x => (dn M x.1).map fun r => (r, x.2)
theorem relE_down (t : List Nd) (N M : Nms) : relE t (N ++ M) = (relE t N).filterMap (down M) := by
  unfold relE
  rw [List.filterMap_filterMap]
  congr 1
  funext n
  rw [dn_app]
  cases dn N (names n.p) with
  | none => rfl
  | some r => rfl
theorem rel_down (t : List Nd) (N : Nms) (s : List UInt8) : rel t (N ++ [s]) = ((rel t N).filterMap (down [s])).filterMap nonE := by
  unfold rel
  rw [relE_down, List.filterMap_filterMap, List.filterMap_filterMap, List.filterMap_filterMap]
  congr 1
  funext x
  obtain ⟨r, y⟩ := x
  cases r with
  | nil => rfl
  | cons a r => rfl
def kidR : Rl → Option (List UInt8 × Int × List UInt8) := fun x => match x.1 with | [s] => some (s, x.2) | _ => none
theorem kid_iff {p q : List UInt8} (hq : right q = true) : parent p = some q ↔ ∃ s, names p = names q ++ [s] := by
  constructor
  · intro h
    obtain ⟨h1, h2, _⟩ := parent_names h
    refine ⟨(names p).getLast h2, ?_⟩
    rw [h1]
    exact (List.dropLast_concat_getLast h2).symm
  · rintro ⟨s, h⟩
    unfold parent
    rw [if_neg (by rw [h]; simp), h, List.dropLast_concat, glue_names hq]
theorem base_of {p : List UInt8} {N : Nms} {s : List UInt8} (h : names p = N ++ [s]) : base p = s := by
  unfold base
  rw [h]
  simp
def kf (n : Nd) : List UInt8 × Int × List UInt8 := (base n.p, n.kind, n.data)
theorem kids_rel (t : List Nd) {p : List UInt8} (hp : right p = true) : (kids t p).map kf = (rel t (names p)).filterMap kidR := by
  unfold rel relE kids
  rw [List.filterMap_filterMap, List.filterMap_filterMap]
  induction t with
  | nil => rfl
  | cons n t ih =>
    rw [List.filterMap_cons]
    by_cases h : parent n.p = some p
    · obtain ⟨s, hs⟩ := (kid_iff hp).1 h
      have h1 : dn (names p) (names n.p) = some [s] := dn_some.2 hs
      rw [List.filter_cons_of_pos (by simpa using h), List.map_cons, ih]
      simp only [h1, Option.map_some, Option.bind_some, nonE, kidR]
      rw [show kf n = (s, n.kind, n.data) by unfold kf; rw [base_of hs]]
    · rw [List.filter_cons_of_neg (by simpa using h), ih]
      have : ((dn (names p) (names n.p)).map fun r => ((r, n.kind, n.data) : Rl)).bind (fun x => (nonE x).bind kidR) = none := by
        cases e : dn (names p) (names n.p) with
        | none => rfl
        | some r =>
          cases r with
          | nil => rfl
          | cons a r =>
            cases r with
            | nil => exact absurd ((kid_iff hp).2 ⟨a, dn_some.1 e⟩) h
            | cons b r => rfl
      simp only [this]
theorem atP_mem {t : List Nd} (hu : Uniq t) {n : Nd} (hn : n ∈ t) : atP t n.p = some n := by
  unfold atP
  rw [if_neg (hu.2 n hn), hu.find_ hn]
theorem below_kids {t : List Nd} {n : Nd} (h : n.kind = 1) : belowP t n = (kids t n.p).map (·.p) := if_pos h
/-- What is beneath two paths being one and the same, they are alike. -/
theorem like_of_rel {a b : List Nd} (ua : Uniq a) (ub : Uniq b) (ra : ∀ n ∈ a, right n.p = true) (rb : ∀ n ∈ b, right n.p = true) : ∀ (d : Nat) (p q : List UInt8) (x y : Nd), 17 ≤ d + (names p).length → right p = true → right q = true →
    atP a p = some x → atP b q = some y → x.kind = y.kind → x.data = y.data → rel a (names p) = rel b (names q) → likeF a b d p q = true := by
  intro d
  induction d with
  | zero => intro p q x y h; have := names_len16 p; omega
  | succ d ih =>
    intro p q x y hd hp hq hx hy hk hdt hr
    rw [like_some hx hy]
    have hxp := (atP_some hx).2
    have hyp := (atP_some hy).2
    rw [show (x.kind == y.kind) = true by simpa using hk, show (x.data == y.data) = true by simpa using hdt]
    by_cases hk1 : x.kind = 1
    · rw [below_kids hk1, below_kids (hk ▸ hk1), hxp, hyp]
      have hm : (kids a p).map kf = (kids b q).map kf := by rw [kids_rel a hp, kids_rel b hq, hr]
      have hl : (kids a p).length = (kids b q).length := by have := congrArg List.length hm; simpa using this
      have hall : (((kids a p).map (·.p)).zip ((kids b q).map (·.p))).all (fun s => base s.1 == base s.2 && likeF a b d s.1 s.2) = true := by
        rw [List.all_eq_true]
        intro s hs
        obtain ⟨i, hi, rfl⟩ := List.getElem_of_mem hs
        have hi1 : i < (kids a p).length := by simp at hi; omega
        have hi2 : i < (kids b q).length := by omega
        have hfi : kf (kids a p)[i] = kf (kids b q)[i] := by
          have h1 : ((kids a p).map kf)[i]? = ((kids b q).map kf)[i]? := by rw [hm]
          rw [List.getElem?_map, List.getElem?_map, List.getElem?_eq_getElem hi1, List.getElem?_eq_getElem hi2] at h1
          exact Option.some.inj h1
        have hka := kids_mem (List.getElem_mem hi1)
        have hkb := kids_mem (List.getElem_mem hi2)
        have hpa : parent (kids a p)[i].p = some p := by have := (List.mem_filter.1 (List.getElem_mem hi1)).2; simpa using this
        have hpb : parent (kids b q)[i].p = some q := by have := (List.mem_filter.1 (List.getElem_mem hi2)).2; simpa using this
        simp only [List.getElem_zip, List.getElem_map]
        generalize (kids a p)[i] = u at *
        generalize (kids b q)[i] = v at *
        unfold kf at hfi
        injection hfi with f1 f2
        injection f2 with f2 f3
        obtain ⟨s1, e1⟩ := (kid_iff hp).1 hpa
        obtain ⟨s2, e2⟩ := (kid_iff hq).1 hpb
        have hs12 : s1 = s2 := by rw [← base_of e1, ← base_of e2]; exact f1
        subst hs12
        rw [f1]
        simp only [beq_self_eq_true, Bool.true_and]
        refine ih u.p v.p u v ?_ (ra u hka) (rb v hkb) (atP_mem ua hka) (atP_mem ub hkb) f2 f3 ?_
        · rw [e1, List.length_append]; simp; omega
        · rw [e1, e2, rel_down, rel_down, hr]
      rw [hall]
      simp [hl]
    · have e1 : belowP a x = [] := if_neg hk1
      have e2 : belowP b y = [] := if_neg (by rw [← hk]; exact hk1)
      rw [e1, e2]
      rfl
theorem flatMap_eq {α β γ : Type} {l : List α} {m : List β} {f : α → List γ} {g : β → List γ} (hl : l.length = m.length) (h : ∀ i (h1 : i < l.length) (h2 : i < m.length), f l[i] = g m[i]) : l.flatMap f = m.flatMap g := by
  rw [List.flatMap_def, List.flatMap_def]
  congr 1
  refine List.ext_getElem (by simp [hl]) fun i h1 h2 => ?_
  simp only [List.getElem_map]
  exact h i (by simpa using h1) (by simpa using h2)
/-- What is alike: its parts. -/
theorem like_parts {a b : List Nd} {d : Nat} {p q : List UInt8} (h : likeF a b (d + 1) p q = true) : ∃ x y, atP a p = some x ∧ atP b q = some y ∧ x.kind = y.kind ∧ x.data = y.data ∧ (belowP a x).length = (belowP b y).length ∧
    ∀ i (h1 : i < (belowP a x).length) (h2 : i < (belowP b y).length), base (belowP a x)[i] = base (belowP b y)[i] ∧ likeF a b d (belowP a x)[i] (belowP b y)[i] = true := by
  cases hx : atP a p with
  | none => rw [like_none1 hx] at h; cases h
  | some x =>
    cases hy : atP b q with
    | none => rw [like_none2 hy] at h; cases h
    | some y =>
      rw [like_some hx hy] at h
      simp only [Bool.and_eq_true, beq_iff_eq, decide_eq_true_eq] at h
      obtain ⟨⟨h1, h2⟩, h3, h4⟩ := h
      refine ⟨x, y, rfl, rfl, h1, h2, h3, fun i i1 i2 => ?_⟩
      rw [List.all_eq_true] at h4
      have := h4 ((belowP a x)[i], (belowP b y)[i]) (by
        rw [List.mem_iff_getElem]
        exact ⟨i, by simp; omega, by simp⟩)
      simpa using this
theorem atP_text {t : List Nd} (hu : Uniq t) {p : List UInt8} {x : Nd} (h : atP t p = some x) : textP t p = if x.kind = 1 then (kids t p).flatMap (entryP t) else x.data := by
  obtain ⟨h1, h2⟩ := atP_some h
  rw [← h2]
  by_cases hk : x.kind = 1
  · rw [if_pos hk]
    refine dir_text hu ?_ hk
    rcases h1 with rfl | h1
    · exact .inl rfl
    · exact .inr h1
  · rw [if_neg hk]
    rcases h1 with rfl | h1
    · exact absurd rfl hk
    · exact leaf_text hu h1 hk
/-- What is alike has one text. -/
theorem like_text {a b : List Nd} (ua : Uniq a) (ub : Uniq b) : ∀ (d : Nat) (p q : List UInt8), likeF a b d p q = true → textP a p = textP b q := by
  intro d
  induction d with
  | zero => intro p q h; cases h
  | succ d ih =>
    intro p q h
    obtain ⟨x, y, hx, hy, hk, hdt, hl, hi⟩ := like_parts h
    rw [atP_text ua hx, atP_text ub hy]
    by_cases hk1 : x.kind = 1
    · have hyk : y.kind = 1 := hk ▸ hk1
      rw [if_pos hk1, if_pos hyk]
      rw [below_kids hk1] at hl
      rw [below_kids hyk] at hl
      simp only [below_kids hk1, below_kids hyk] at hi
      rw [(atP_some hx).2] at hl
      rw [(atP_some hy).2] at hl
      simp only [(atP_some hx).2, (atP_some hy).2] at hi
      rw [List.length_map, List.length_map] at hl
      refine flatMap_eq hl fun i h1 h2 => ?_
      obtain ⟨hb, hlk⟩ := hi i (by simpa using h1) (by simpa using h2)
      simp only [List.getElem_map] at hb hlk
      have hka := kids_mem (List.getElem_mem h1)
      have hkb := kids_mem (List.getElem_mem h2)
      generalize (kids a p)[i] = u at *
      generalize (kids b q)[i] = v at *
      have ht := ih _ _ hlk
      have hkk : u.kind = v.kind := by
        cases d with
        | zero => cases hlk
        | succ d =>
          obtain ⟨x', y', hx', hy', hk', _⟩ := like_parts hlk
          rw [atP_mem ua hka] at hx'
          rw [atP_mem ub hkb] at hy'
          obtain rfl := Option.some.inj hx'
          obtain rfl := Option.some.inj hy'
          exact hk'
      unfold entryP
      rw [hb, hkk, ht]
    · rw [if_neg hk1, if_neg (by rw [← hk]; exact hk1), hdt]
end Tr
end Go.Proofs.Yteadcblmomngpaa
namespace Go.Proofs.Yteadcblmomngpaa
open Go Go.RowKit Go.Shelf W
namespace Pth
/-- Is a path within another one? -/
def within (p q : List UInt8) : Bool := right p && right q && decide ((cut p).take (cut q).length = cut q)
/-- A path that is within one put beneath another one. -/
def rebase (p frm to : List UInt8) : Option (List UInt8) :=
  if within p frm = true ∧ right to = true ∧ (cut to ++ (cut p).drop (cut frm).length).length ≤ 16 then some (glue (cut to ++ (cut p).drop (cut frm).length)) else none
theorem take_len {α : Type} {L M : List α} (h : L.take M.length = M) : M.length ≤ L.length := by
  have := congrArg List.length h
  rw [List.length_take] at this
  omega
theorem within_parts {p q : List UInt8} (h : within p q = true) : right p = true ∧ right q = true ∧ (cut p).take (cut q).length = cut q := by
  unfold within at h
  simp only [Bool.and_eq_true, decide_eq_true_eq] at h
  exact ⟨h.1.1, h.1.2, h.2⟩
set_option maxRecDepth 100000 in
set_option maxHeartbeats 4000000 in
theorem refWithin_any (p q : List UInt8) (w : World) (hp : p.length ≤ 100000) (hq : q.length ≤ 100000) : Calls Try.prog 31 #[str p, str q] w fun e w' => e = .returned (.bool (within p q)) ∧ Gr w w' := by
  have hcp := Lib.hid (refCut_any p w (by omega))
  have hcq := Lib.hid (fun w => refCut_any q w (by omega))
  have hrp := Lib.hid (fun w => refRight_any p w hp)
  have hrq := Lib.hid (fun w => refRight_any q w hq)
  obtain ⟨r, hr⟩ : ∃ r, within p q = r := ⟨_, rfl⟩
  rw [hr]
  unfold within at hr
  have hlp := cut_len p
  have hlq := cut_len q
  obtain ⟨L, hL⟩ : ∃ L, cut p = L := ⟨_, rfl⟩
  obtain ⟨M, hM⟩ : ∃ M, cut q = M := ⟨_, rfl⟩
  rw [hL] at hcp hr hlp
  rw [hM] at hcq hr hlq
  replace hr := Lib.hid hr
  clear hL hM
  go_enter Try.func31, Try.ntmps31
  go_wp2_with fail
  go_at_call 52
  refine hcp.out.mono ?_
  rintro e w1 ⟨A1, c1, rfl, o1, g1⟩
  have t1 := Lib.hid (OR.reads o1)
  replace g1 := Lib.hid g1
  clear hcp o1
  go_wp2_with fail
  go_at_call 52
  refine (hcq.out _).mono ?_
  rintro e w2 ⟨A2, c2, rfl, o2, g2⟩
  have t2 := Lib.hid (OR.reads o2)
  have t1 := Lib.hid (Reads.more (Reads.below t1.out g2) g2.size)
  have G2 := Lib.hid (Gr.trans g1.out g2)
  clear hcq o2 g2 g1
  go_wp2_with fail
  go_at_call 30
  refine (hrp.out _).mono ?_
  rintro e w3 ⟨rfl, g3⟩
  have t2 := Lib.hid (Reads.more (Reads.below t2.out g3) g3.size)
  have t1 := Lib.hid (Reads.more (Reads.below t1.out g3) g3.size)
  have G3 := Lib.hid (Gr.trans G2.out g3)
  clear hrp g3 G2
  cases hb : right p with
  | false =>
    obtain rfl : r = false := by rw [← hr.out, hb]; rfl
    clear hr hb hrq
    go_wp2
    go_ret
    exact ⟨rfl, G3.out⟩
  | true =>
    go_wp2_with fail
    go_at_call 30
    refine (hrq.out _).mono ?_
    rintro e w4 ⟨rfl, g3⟩
    have t2 := Lib.hid (Reads.more (Reads.below t2.out g3) g3.size)
    have t1 := Lib.hid (Reads.more (Reads.below t1.out g3) g3.size)
    have G4 := Lib.hid (Gr.trans G3.out g3)
    clear hrq g3 G3
    cases hb2 : right q with
    | false =>
      obtain rfl : r = false := by rw [← hr.out, hb2]; simp
      clear hr hb hb2
      go_wp2
      go_ret
      exact ⟨rfl, G4.out⟩
    | true =>
      have hr2 := hr.out
      rw [hb, hb2] at hr2
      simp only [Bool.true_and] at hr2
      by_cases hlm : L.length < M.length
      · have i1 : (L.length : Int) < (M.length : Int) := by omega
        obtain rfl : r = false := by rw [← hr2]; exact decide_eq_false fun h => by have := take_len h; omega
        clear hr hr2 hb hb2
        go_wp2
        go_ret
        exact ⟨rfl, G4.out⟩
      · have i1 : ¬ (L.length : Int) < (M.length : Int) := by omega
        replace hr2 := Lib.hid hr2
        clear hr hb hb2
        go_wp2
        go_loopw [7] (fun i wr => ∃ k : Nat, k ≤ M.length ∧ i = .int .i64 (k : Int) ∧ Hid (L.take k = M.take k ∧ Gr w4 wr)) (fun i _ => M.length - (intOf i).toNat)
        case atStart => exact ⟨0, by omega, rfl, Lib.hid ⟨rfl, Gr.refl _⟩⟩
        case round =>
          obtain ⟨k, hk, rfl, hst⟩ := hrel
          obtain ⟨hq, gz⟩ := hst.out
          clear hst
          by_cases hkl : k < M.length
          · have ij : (k : Int) < (M.length : Int) := by omega
            have hkL : k < L.length := by omega
            have kw : IntKind.i64.wrap ((k : Int) + 1) = (k : Int) + 1 := IntWalk.i64_in _ (by omega)
            obtain ⟨a1, rfl, hl1, x1⟩ := row_str (c := c1) (Reads.below t1.out gz) hkL rfl
            obtain ⟨a2, rfl, hl2, x2⟩ := row_str (c := c2) (Reads.below t2.out gz) hkl rfl
            have hnx : L[k] = M[k] → L.take (k + 1) = M.take (k + 1) := fun h => by rw [List.take_succ_eq_append_getElem hkL, List.take_succ_eq_append_getElem hkl, hq, h]
            have hbd : L[k] ≠ M[k] → r = false := fun h => by
              rw [← hr2.out]
              refine decide_eq_false fun e => h ?_
              have h1 : (L.take M.length)[k]? = M[k]? := by rw [e]
              rw [List.getElem?_take_of_lt hkl, List.getElem?_eq_getElem hkL, List.getElem?_eq_getElem hkl] at h1
              exact Option.some.inj h1
            have sz := Below.size gz
            obtain ⟨u, hu⟩ : ∃ u, L[k] = u := ⟨_, rfl⟩
            obtain ⟨v, hv⟩ : ∃ v, M[k] = v := ⟨_, rfl⟩
            rw [hu] at x1 hnx hbd
            rw [hv] at x2 hnx hbd
            have lb1 : (a1.add k).block < wr.heap.size := by omega
            have lb2 : (a2.add k).block < wr.heap.size := by omega
            replace gz := Lib.hid gz
            clear hu hv hl1 hl2 hq
            by_cases huv : u = v
            · have hN := Lib.hid (hnx huv)
              subst huv
              clear hnx hbd
              go_wp2
              refine region_grow rfl (by kernel_rfl) ?_
              refine GW.mv rfl trivial (.inl rfl) (kn0 (t := 5) (c := .slice (some a1) L.length c1) (by kernel_rfl) rfl) (eqv_lasts _) ?_
              refine GW.mv rfl trivial (.inl rfl) (kn0 (t := 7) (c := .int .i64 (k : Int)) (by kernel_rfl) rfl) (eqv_lasts _) ?_
              refine GW.p2 (.pointer (some (a1.add k))) rfl trivial (kn (t := 33) (j := 0) (by kernel_rfl)) (kn (t := 34) (j := 1) (by kernel_rfl)) (fun ρ w' h1 h2 hg => by show ((Instr.indexAt 50 (ρ (.tmp 33)) (ρ (.tmp 34)) >>= fun v => pure (Next.value v)) : Sem Next).run Try.prog w' = _; rw [h1, h2, Sem.run_bind, run_idxR w' Try.underlying50 (size := 1) (by kernel_rfl) a1 _ _ k hkL]; simp) ?_
              refine GW.p1 (str u) rfl trivial (kn (t := 35) (j := 2) (by kernel_rfl)) (fun ρ w' hρ hg => by simp [execOp, hρ, go_sem, (hg.cell (p := (a1.add k)) lb1).trans x1]) ?_
              refine GW.mv rfl trivial (.inl rfl) (kn0 (t := 6) (c := .slice (some a2) M.length c2) (by kernel_rfl) rfl) (eqv_lasts _) ?_
              refine GW.mv rfl trivial (.inl rfl) (kn0 (t := 7) (c := .int .i64 (k : Int)) (by kernel_rfl) rfl) (eqv_lasts _) ?_
              refine GW.p2 (.pointer (some (a2.add k))) rfl trivial (kn (t := 37) (j := 4) (by kernel_rfl)) (kn (t := 38) (j := 5) (by kernel_rfl)) (fun ρ w' h1 h2 hg => by show ((Instr.indexAt 50 (ρ (.tmp 37)) (ρ (.tmp 38)) >>= fun v => pure (Next.value v)) : Sem Next).run Try.prog w' = _; rw [h1, h2, Sem.run_bind, run_idxR w' Try.underlying50 (size := 1) (by kernel_rfl) a2 _ _ k hkl]; simp) ?_
              refine GW.p1 (str u) rfl trivial (kn (t := 39) (j := 6) (by kernel_rfl)) (fun ρ w' hρ hg => by simp [execOp, hρ, go_sem, (hg.cell (p := (a2.add k)) lb2).trans x2]) ?_
              refine GW.bin (.bool false) rfl trivial rfl (kn (t := 36) (j := 3) (by kernel_rfl)) (kn (t := 40) (j := 7) (by kernel_rfl)) (fun w' => by simp [go_sem]) ?_
              refine GW.done (by simp) (by kernel_rfl) (fun w' hg => ?_)
              rintro v0 - v1 - v2 - v3 - v4 - v5 - v6 - v7 - v8 h8
              obtain rfl : v8 = (.bool false) := h8
              simp only [GFin, Act.put, List.setIfInBounds_toArray, List.set_cons_succ, List.set_cons_zero]
              have g9 := Lib.hid (Gr.trans gz.out hg)
              clear hg gz x1 x2 lb1 lb2
              go_wp2
              exact ⟨⟨k + 1, by omega, by go_num, Lib.hid ⟨hN.out, g9.out⟩⟩, by simp [intOf]; omega⟩
            · obtain rfl := hbd huv
              clear hnx hbd
              go_wp2
              refine region_grow rfl (by kernel_rfl) ?_
              refine GW.mv rfl trivial (.inl rfl) (kn0 (t := 5) (c := .slice (some a1) L.length c1) (by kernel_rfl) rfl) (eqv_lasts _) ?_
              refine GW.mv rfl trivial (.inl rfl) (kn0 (t := 7) (c := .int .i64 (k : Int)) (by kernel_rfl) rfl) (eqv_lasts _) ?_
              refine GW.p2 (.pointer (some (a1.add k))) rfl trivial (kn (t := 33) (j := 0) (by kernel_rfl)) (kn (t := 34) (j := 1) (by kernel_rfl)) (fun ρ w' h1 h2 hg => by show ((Instr.indexAt 50 (ρ (.tmp 33)) (ρ (.tmp 34)) >>= fun v => pure (Next.value v)) : Sem Next).run Try.prog w' = _; rw [h1, h2, Sem.run_bind, run_idxR w' Try.underlying50 (size := 1) (by kernel_rfl) a1 _ _ k hkL]; simp) ?_
              refine GW.p1 (str u) rfl trivial (kn (t := 35) (j := 2) (by kernel_rfl)) (fun ρ w' hρ hg => by simp [execOp, hρ, go_sem, (hg.cell (p := (a1.add k)) lb1).trans x1]) ?_
              refine GW.mv rfl trivial (.inl rfl) (kn0 (t := 6) (c := .slice (some a2) M.length c2) (by kernel_rfl) rfl) (eqv_lasts _) ?_
              refine GW.mv rfl trivial (.inl rfl) (kn0 (t := 7) (c := .int .i64 (k : Int)) (by kernel_rfl) rfl) (eqv_lasts _) ?_
              refine GW.p2 (.pointer (some (a2.add k))) rfl trivial (kn (t := 37) (j := 4) (by kernel_rfl)) (kn (t := 38) (j := 5) (by kernel_rfl)) (fun ρ w' h1 h2 hg => by show ((Instr.indexAt 50 (ρ (.tmp 37)) (ρ (.tmp 38)) >>= fun v => pure (Next.value v)) : Sem Next).run Try.prog w' = _; rw [h1, h2, Sem.run_bind, run_idxR w' Try.underlying50 (size := 1) (by kernel_rfl) a2 _ _ k hkl]; simp) ?_
              refine GW.p1 (str v) rfl trivial (kn (t := 39) (j := 6) (by kernel_rfl)) (fun ρ w' hρ hg => by simp [execOp, hρ, go_sem, (hg.cell (p := (a2.add k)) lb2).trans x2]) ?_
              refine GW.bin (.bool true) rfl trivial rfl (kn (t := 36) (j := 3) (by kernel_rfl)) (kn (t := 40) (j := 7) (by kernel_rfl)) (fun w' => by simp [go_sem, huv]) ?_
              refine GW.done (by simp) (by kernel_rfl) (fun w' hg => ?_)
              rintro v0 - v1 - v2 - v3 - v4 - v5 - v6 - v7 - v8 h8
              obtain rfl : v8 = (.bool true) := h8
              simp only [GFin, Act.put, List.setIfInBounds_toArray, List.set_cons_succ, List.set_cons_zero]
              have g9 := Lib.hid (Gr.trans G4.out (Gr.trans gz.out hg))
              clear hg gz x1 x2 lb1 lb2 huv
              go_wp2
              go_ret
              exact ⟨rfl, g9.out⟩
          · obtain rfl : k = M.length := by omega
            rw [List.take_length] at hq
            obtain rfl : r = true := by rw [← hr2.out]; exact decide_eq_true hq
            have g9 := Lib.hid (Gr.trans G4.out gz)
            clear hr2 hq gz
            go_wp2
            go_ret
            exact ⟨rfl, g9.out⟩
/-! ### Rebase -/
def offS (A : Option Addr) (c m : Nat) : Option Addr := if c = m then A else A.map (·.add m)
theorem Reads.dropS {w : World} {B : Nat} {A : Option Addr} {l : List (List UInt8)} {c m : Nat} (h : Reads w B 1 A l.length (strs l)) (hm : m ≤ l.length) (hc : l.length ≤ c) : Reads w B 1 (offS A c m) (l.length - m) (strs (l.drop m)) := by
  refine ⟨by simp, fun h0 => ?_⟩
  obtain ⟨ad, h1, h2, h3⟩ := h.2 (by omega)
  subst h1
  unfold offS
  rw [if_neg (by omega)]
  refine ⟨_, rfl, by rw [block_of_add]; exact h2, fun j u hu => ?_⟩
  rw [add_of_add]
  refine h3 _ u ?_
  rw [List.getElem?_map] at hu ⊢
  rw [List.getElem?_drop] at hu
  exact hu
theorem run_slice_loS {P : Program} {w : World} {T E : TypeId} (hT : P.underlying T = some (.slice E)) (hE : (P.info? E).map (·.size) = some 1) (A : Option Addr) (n c m : Nat) (k : IntKind) (hm : m ≤ n) (hc : n ≤ c) :
    (Instr.sliceAt T (.slice A n c) (some (.int k (m : Int))) none none).run P w = .ok (.slice (offS A c m) (n - m) (c - m)) w := by
  obtain ⟨i0, h0, h1⟩ := Option.map_eq_some_iff.1 hE
  have h2 : (m : Int) ≤ (n : Int) := by omega
  unfold offS
  cases A with
  | none => simp [Instr.sliceAt, Instr.slice, Instr.sliceBounds, Instr.sliceBound, run_underlying hT, sizeOf, typeInfo, h0, h1, asIntOf, hm]
  | some ad => simp [Instr.sliceAt, Instr.slice, Instr.sliceBounds, Instr.sliceBound, run_underlying hT, sizeOf, typeInfo, h0, h1, asIntOf, hm]
theorem wpList_sliceLoS {P : Program} {E : TypeId} {w : World} {ops : Array Oper} {rest : List Oper} {o : Oper} {a : Act} {Q : Exit → Act → World → Prop} (hgd : o.guard = none) (s y : Operand) (T : TypeId) (ho : o.op = .slice T s (some y) none none)
    (hT : P.underlying T = some (.slice E)) (hE : (P.info? E).map (·.size) = some 1) (A : Option Addr) (n c m : Nat) (hs : a.eval s = .slice A n c) (hy : a.eval y = .int .i64 (m : Int)) (hm : m ≤ n) (hc : n ≤ c)
    (h : wpList P ops Q rest (a.put o.dst (.slice (offS A c m) (n - m) (c - m))) w) : wpList P ops Q (o :: rest) a w :=
  wpList_wanted (by simp [Region.wanted, hgd]) fun _ hK => by
    unfold Oper.wp execOp
    simp only [ho, Option.map_some, Option.map_none, hs, hy]
    rw [Sem.run_bind, run_slice_loS hT hE A n c m _ hm hc]
    exact hK _ _ h
theorem strSize : (Try.prog.info? 9).map (·.size) = some 1 := by kernel_rfl
theorem emptyS (w : World) (base : Nat) (hb : base ≤ w.heap.size) : OR 9 1 (w.alloc (.cells #[] 9)) base (.slice (some ⟨w.heap.size, 0, none⟩) 0 0) 0 [] :=
  ⟨rfl, .inr ⟨w.heap.size, 0, #[], rfl, hb, Blk.new w _ _, Nat.le_refl _, by unfold maxLen; omega, by simp, by simp⟩⟩
theorem strs_cells (l : List (List UInt8)) : ∀ u ∈ strs l, u.oneCell' = true := by
  intro u hu
  obtain ⟨x, _, rfl⟩ := List.mem_map.1 hu
  rfl
set_option maxRecDepth 100000 in
set_option maxHeartbeats 4000000 in
theorem refRebase_any (p frm to : List UInt8) (w : World) (hp : p.length ≤ 90000) (hf : frm.length ≤ 90000) (ht : to.length ≤ 90000) : Calls Try.prog 33 #[str p, str frm, str to] w fun e w' => e = .returned (parentV (rebase p frm to)) ∧ Gr w w' := by
  have hwi := Lib.hid (refWithin_any p frm w (by omega) (by omega))
  have hrt := Lib.hid (fun w => refRight_any to w (by omega))
  obtain ⟨r, hr⟩ : ∃ r, rebase p frm to = r := ⟨_, rfl⟩
  rw [hr]
  unfold rebase at hr
  go_enter Try.func33, Try.ntmps33
  go_wp2_with fail
  go_at_call 31
  refine hwi.out.mono ?_
  rintro e w1 ⟨rfl, g1⟩
  replace g1 := Lib.hid g1
  clear hwi
  cases hb : within p frm with
  | false =>
    obtain rfl : r = none := by rw [← hr, hb, if_neg (fun h => by cases h.1)]
    clear hr hb
    go_wp2
    go_ret2
    exact ⟨rfl, g1.out⟩
  | true =>
    go_wp2_with fail
    go_at_call 30
    refine (hrt.out _).mono ?_
    rintro e w2 ⟨rfl, g2⟩
    have G2 := Lib.hid (Gr.trans g1.out g2)
    clear hrt g1 g2
    cases hb2 : right to with
    | false =>
      obtain rfl : r = none := by rw [← hr, hb2, if_neg (fun h => by cases h.2.1)]
      clear hr hb hb2
      go_wp2
      go_ret2
      exact ⟨rfl, G2.out⟩
    | true =>
      have hwp := take_len (within_parts hb).2.2
      rw [hb, hb2] at hr
      have hct := Lib.hid (fun w => refCut_any to w (by omega))
      have hcp := Lib.hid (fun w => refCut_any p w (by omega))
      have hcf := Lib.hid (fun w => refCut_any frm w (by omega))
      have hlt := cut_len to
      have hlp := cut_len p
      have het := cut_each to
      have hep := cut_each p
      obtain ⟨T, hT⟩ : ∃ T, cut to = T := ⟨_, rfl⟩
      obtain ⟨P, hP⟩ : ∃ P, cut p = P := ⟨_, rfl⟩
      obtain ⟨m, hm⟩ : ∃ m, (cut frm).length = m := ⟨_, rfl⟩
      rw [hT] at hct hr hlt het
      rw [hP] at hcp hr hlp hep hwp
      rw [hm] at hr hwp
      have hcf2 : Hid (∀ w, Calls Try.prog 52 #[str frm] w fun e w' => ∃ A c, e = .returned (.slice A m c) ∧ Gr w w') := Lib.hid (fun w => (hcf.out w).mono (by rintro e w' ⟨A, c, rfl, _, g⟩; exact ⟨A, c, by rw [hm], g⟩))
      have hr' : (if (T ++ P.drop m).length ≤ 16 then some (glue (T ++ P.drop m)) else none) = r := by simpa using hr
      replace hr' := Lib.hid hr'
      obtain ⟨n, hn⟩ : ∃ n, n = T.length + (P.length - m) := ⟨_, rfl⟩
      clear hb hb2 hT hP hm hcf hr
      have hLl : (T ++ P.drop m).length = T.length + (P.length - m) := by simp
      have hLe : ∀ x ∈ T ++ P.drop m, x.length ≤ 100000 := fun x hx => by
        rcases List.mem_append.1 hx with hx | hx
        · have := het x hx; omega
        · have := hep x (List.mem_of_mem_drop hx); omega
      have gE := (Gr.refl w2).alloc (.cells #[] 9)
      have oE := Lib.hid (emptyS w2 w2.heap.size (Nat.le_refl _))
      have GE := Lib.hid (Gr.trans G2.out gE)
      have wsz : w.heap.size ≤ w2.heap.size := G2.out.size
      clear gE G2
      go_wp2_with fail
      go_at_call 52
      refine (hct.out _).mono ?_
      rintro e w3 ⟨A3, c3, rfl, o3, g3⟩
      have t3 := Lib.hid (OR.reads o3)
      have oE := Lib.hid (OR.below oE.out g3)
      have G3 := Lib.hid (Gr.trans GE.out g3)
      have ws3 : w2.heap.size ≤ w3.heap.size := by have := g3.size; rw [World.size_alloc] at this; omega
      clear hct o3 g3 GE
      go_wp2_with (first
        | ((with_reducible refine wpList_isApp (.tmp 18) (.tmp 20) 50 rfl ?_); refine Tr.wpList_append_empty (g := w2.heap.size) (base := w2.heap.size) rfl (.tmp 18) (.tmp 20) 50 rfl Try.underlying50 strRow rfl (by exact oE.out) w3.heap.size A3 T.length c3 (strs T) rfl (by exact t3.out) (strs_cells _) (by unfold maxLen; omega) (by omega) ws3 ?_; intro A4 c4 w4 o4 g4; have G4 := Lib.hid (Gr.trans G3.out g4); have ws4 : w2.heap.size ≤ w4.heap.size := (Nat.le_trans ws3 g4.size); replace o4 := Lib.hid o4; clear oE t3 g4 G3)
        | (go_at_call 52; fail))
      go_at_call 52
      refine (hcp.out _).mono ?_
      rintro e w5 ⟨A5, c5, rfl, o5, g5⟩
      have t5 := Lib.hid (OR.reads o5)
      obtain ⟨A5', c5', hv5, hc5, _⟩ := OR.shape o5
      have hk5 : P.length ≤ c5 := by simp only [Value.slice.injEq] at hv5; omega
      have o4 := Lib.hid (OR.below o4.out g5)
      have G5 := Lib.hid (Gr.trans G4.out g5)
      have ws5 : w2.heap.size ≤ w5.heap.size := Nat.le_trans ws4 g5.size
      clear hcp o5 g5 G4 hv5 hc5
      go_wp2_with fail
      go_at_call 52
      refine (hcf2.out _).mono ?_
      rintro e w6 ⟨A6, c6, rfl, g6⟩
      have t5 := Lib.hid (Reads.more (Reads.below t5.out g6) g6.size)
      have o4 := Lib.hid (OR.below o4.out g6)
      have G6 := Lib.hid (Gr.trans G5.out g6)
      have ws6 : w2.heap.size ≤ w6.heap.size := Nat.le_trans ws5 g6.size
      clear hcf2 g6 G5
      have hr2 := hr'.out
      rw [hLl, ← hn] at hr2
      have hn16 := hn
      replace hn := Lib.hid hn
      clear hn16 hr'
      by_cases hl16 : n ≤ 16
      · have i1 : ¬ (16 : Int) < (n : Int) := by omega
        rw [if_pos hl16] at hr2
        have hgl := Lib.hid (fun A c w (h : Reads w w.heap.size 1 A n (strs (T ++ P.drop m))) => refGlue_any A c n (T ++ P.drop m) w (by rw [hLl]; exact hn.out) (by rw [hLl, ← hn.out]; omega) hLe h)
        obtain ⟨G, hG⟩ : ∃ G, glue (T ++ P.drop m) = G := ⟨_, rfl⟩
        rw [hG] at hgl hr2
        subst hr2
        clear hG hLe het hep
        go_wp2_with (first
          | ((with_reducible refine Tr.wpList_isSlice 50 (.tmp 23) (.tmp 26) rfl ?_); refine wpList_sliceLoS rfl (.tmp 23) (.tmp 26) 50 rfl Try.underlying50 strSize A5 P.length c5 m rfl rfl hwp hk5 ?_)
          | ((with_reducible refine wpList_isApp (.tmp 21) (.tmp 27) 50 rfl ?_); refine wpList_append_rowsN (base := w2.heap.size) (v := .slice A4 T.length c4) rfl (.tmp 21) (.tmp 27) 50 rfl Try.underlying50 strRow rfl (by exact o4.out) w6.heap.size (offS A5 c5 m) (P.length - m) (c5 - m) (strs (P.drop m)) rfl (by exact Reads.dropS t5.out hwp hk5) (strs_cells _) (by unfold maxLen; omega) (by omega) ws6 (strs (T ++ P.drop m)) (strs_app _ _) n hn.out ?_; intro A7 c7 w7 o7 b7; have G7 := Lib.hid (Below.trans G6.out (Below.mono b7 wsz)); have t7 := Lib.hid (OR.reads o7); clear o7 b7 o4 t5 G6)
          | fail)
        go_at_call 54
        refine (hgl.out _ _ _ t7.out).mono ?_
        rintro e w8 ⟨rfl, rfl⟩
        clear hgl
        go_wp2
        go_ret2
        exact ⟨rfl, G7.out⟩
      · have i1 : (16 : Int) < (n : Int) := by omega
        rw [if_neg hl16] at hr2
        subst hr2
        clear hLe het hep
        go_wp2_with (first
          | ((with_reducible refine Tr.wpList_isSlice 50 (.tmp 23) (.tmp 26) rfl ?_); refine wpList_sliceLoS rfl (.tmp 23) (.tmp 26) 50 rfl Try.underlying50 strSize A5 P.length c5 m rfl rfl hwp hk5 ?_)
          | ((with_reducible refine wpList_isApp (.tmp 21) (.tmp 27) 50 rfl ?_); refine wpList_append_rowsN (base := w2.heap.size) (v := .slice A4 T.length c4) rfl (.tmp 21) (.tmp 27) 50 rfl Try.underlying50 strRow rfl (by exact o4.out) w6.heap.size (offS A5 c5 m) (P.length - m) (c5 - m) (strs (P.drop m)) rfl (by exact Reads.dropS t5.out hwp hk5) (strs_cells _) (by unfold maxLen; omega) (by omega) ws6 (strs (T ++ P.drop m)) (strs_app _ _) n hn.out ?_; intro A7 c7 w7 o7 b7; have G7 := Lib.hid (Below.trans G6.out (Below.mono b7 wsz)); have t7 := Lib.hid (OR.reads o7); clear o7 b7 o4 t5 G6)
          | fail)
        go_ret2
        exact ⟨rfl, G7.out⟩
end Pth
end Go.Proofs.Yteadcblmomngpaa
namespace Go.Proofs.Yteadcblmomngpaa
open Go Go.RowKit W Pth
namespace Tr
/-- The nodes within a path, or the others. -/
def withinP (t : List Nd) (p : List UInt8) (b : Bool) : List Nd := t.filter fun n => within n.p p == b
def at2 (n : Nd) (p : List UInt8) : Nd := ⟨p, n.kind, n.mode, n.time, n.data⟩
def mvAll (frm to : List UInt8) : List Nd → List Nd → Option (List Nd)
  | cur, [] => some cur
  | cur, n :: s => match rebase n.p frm to with
    | none => none
    | some p => mvAll frm to (insert cur (at2 n p)) s
def moveFin (t : List Nd) (frm to : List UInt8) : List Nd × Int := match mvAll frm to (withinP (withinP t frm false) to false) (withinP t frm true) with
  | none => ([], 5)
  | some m => (m, 0)
def badMove (frm to : List UInt8) : Bool := frm == [] || (to == [] || (!right frm || (!right to || within to frm)))
def moveP (t : List Nd) (frm to : List UInt8) : List Nd × Int :=
  if badMove frm to = true then ([], 2) else match find t frm with
    | none => ([], 6)
    | some a => if parentC t to ≠ 0 then ([], (parentC t to : Int)) else match find t to with
      | some b => if a.kind = 1 ∨ b.kind = 1 then ([], 7) else moveFin t frm to
      | none => moveFin t frm to
theorem insert_nil (n : Nd) : insert [] n = [n] := rfl
theorem insert_cons (x : Nd) (t : List Nd) (n : Nd) : insert (x :: t) n = if cmp x.p n.p ≤ 0 then x :: insert t n else n :: x :: t := by
  unfold insert
  by_cases h : cmp x.p n.p ≤ 0
  · rw [if_pos h, List.takeWhile_cons, List.dropWhile_cons, if_pos (by simpa using h), if_pos (by simpa using h), List.cons_append]
  · rw [if_neg h, List.takeWhile_cons, List.dropWhile_cons, if_neg (by simpa using h), if_neg (by simpa using h), List.nil_append]
theorem cut_right {p : List UInt8} (h : right p = true) : cut p = names p := (names_right h).symm
theorem within_iff {p q : List UInt8} (hp : right p = true) (hq : right q = true) : within p q = true ↔ ∃ r, names p = names q ++ r := by
  unfold within
  rw [hp, hq, cut_right hp, cut_right hq]
  simp only [Bool.true_and, decide_eq_true_eq]
  constructor
  · intro h
    exact ⟨(names p).drop (names q).length, by conv => lhs; rw [← List.take_append_drop (names q).length (names p)]; rw [h]⟩
  · rintro ⟨r, h⟩
    rw [h, List.take_left' rfl]
theorem cmp_names {p q : List UInt8} (hp : right p = true) (hq : right q = true) : cmp p q = cmpL (names p) (names q) := by
  unfold cmp
  rw [cut_right hp, cut_right hq]
theorem relE_cons (x : Nd) (t : List Nd) (N : Nms) : relE (x :: t) N = (match dn N (names x.p) with | some r => [(r, x.kind, x.data)] | none => []) ++ relE t N := by
  unfold relE
  rw [List.filterMap_cons]
  cases dn N (names x.p) <;> rfl
theorem relE_none {t : List Nd} {N : Nms} (h : ∀ x ∈ t, ∀ r, names x.p ≠ N ++ r) : relE t N = [] := by
  unfold relE
  rw [List.filterMap_eq_nil_iff]
  intro x hx
  cases e : dn N (names x.p) with
  | none => rfl
  | some r => exact absurd (dn_some.1 e) (h x hx r)
theorem relE_insert {t : List Nd} {n : Nd} {N r : Nms} (hs : Srt t) (hn : names n.p = N ++ r) (hc : ∀ x ∈ t, ∀ r', names x.p = N ++ r' → cmp x.p n.p < 0) : relE (insert t n) N = relE t N ++ [(r, n.kind, n.data)] := by
  induction t with
  | nil =>
    rw [insert_nil, relE_cons, dn_some.2 hn]
    rfl
  | cons x t ih =>
    obtain ⟨h1, h2⟩ := List.pairwise_cons.1 hs
    rw [insert_cons]
    by_cases h : cmp x.p n.p ≤ 0
    · rw [if_pos h, relE_cons, relE_cons, ih h2 (fun y hy => hc y (List.mem_cons_of_mem _ hy)), List.append_assoc]
    · rw [if_neg h, relE_cons, dn_some.2 hn]
      have hg : cmp n.p x.p < 0 := by rw [cmp_neg]; omega
      have : relE (x :: t) N = [] := relE_none fun y hy r' e => by
        have h3 := hc y hy r' e
        rcases List.mem_cons.1 hy with rfl | hy
        · omega
        · have h4 := cmp_trans hg (h1 y hy)
          rw [cmp_neg] at h4
          omega
      rw [this]
      rfl
/-- The path of what is moved. -/
theorem rebase_names {p frm to q : List UInt8} {r : Nms} (hp : right p = true) (hf : right frm = true) (ht : right to = true) (hr : names p = names frm ++ r) (h : rebase p frm to = some q) : names q = names to ++ r ∧ right q = true := by
  unfold rebase at h
  by_cases hc : within p frm = true ∧ right to = true ∧ (cut to ++ (cut p).drop (cut frm).length).length ≤ 16
  · rw [if_pos hc] at h
    injection h with h
    have h3 := hc.2.2
    rw [cut_right hp, cut_right hf, cut_right ht, hr, List.drop_left' rfl] at h h3
    subst h
    have hn : ∀ x ∈ names to ++ r, name x = true := fun x hx => by
      rcases List.mem_append.1 hx with hx | hx
      · exact names_each_name to x hx
      · exact names_each_name p x (by rw [hr]; exact List.mem_append_right _ hx)
    exact ⟨names_glue hn h3, right_glue hn h3⟩
  · rw [if_neg hc] at h; cases h
theorem mv_rel {frm to : List UInt8} (hf : right frm = true) (ht : right to = true) (hte : names to ≠ []) : ∀ (s cur m : List Nd), Srt cur → (∀ x ∈ cur, x.p ≠ [] ∧ right x.p = true) → Srt s → (∀ n ∈ s, right n.p = true ∧ ∃ r, names n.p = names frm ++ r) →
    (∀ n ∈ s, ∀ x ∈ cur, ∀ r r', names n.p = names frm ++ r → names x.p = names to ++ r' → cmpL r' r < 0) → mvAll frm to cur s = some m →
    Srt m ∧ (∀ x ∈ m, x.p ≠ [] ∧ right x.p = true) ∧ relE m (names to) = relE cur (names to) ++ relE s (names frm) ∧ m.length = cur.length + s.length ∧ ∀ x ∈ m, x ∈ cur ∨ ∃ n ∈ s, x.data = n.data := by
  intro s
  induction s with
  | nil =>
    intro cur m h1 h2 _ _ _ h
    obtain rfl : cur = m := Option.some.inj h
    exact ⟨h1, h2, by simp [relE], by simp, fun x hx => .inl hx⟩
  | cons n s ih =>
    intro cur m h1 h2 h3 h4 h5 h
    obtain ⟨hn1, r, hn2⟩ := h4 n (by simp)
    obtain ⟨s1, s2⟩ := List.pairwise_cons.1 h3
    rw [mvAll] at h
    cases er : rebase n.p frm to with
    | none => rw [er] at h; cases h
    | some p' =>
      rw [er] at h
      simp only at h
      obtain ⟨hq, hqr⟩ := rebase_names hn1 hf ht hn2 er
      have hpe : p' ≠ [] := fun e => by
        rw [e] at hq
        have : names to ++ r = [] := by rw [← hq]; rfl
        exact hte (List.append_eq_nil_iff.1 this).1
      have hlt : ∀ x ∈ cur, ∀ r', names x.p = names to ++ r' → cmp x.p p' < 0 := fun x hx r' e => by
        rw [cmp_names (h2 x hx).2 hqr, e, hq, cmpL_app]
        exact h5 n (by simp) x hx r r' hn2 e
      have hins := relE_insert (n := at2 n p') h1 hq hlt
      have hne : ∀ x ∈ cur, x.p ≠ (at2 n p').p := fun x hx e => by
        have e' : x.p = p' := e
        have := hlt x hx r (by rw [e', hq])
        rw [e', cmp_zero.2 rfl] at this
        omega
      obtain ⟨k1, k2, k3, k4, k5⟩ := ih (insert cur (at2 n p')) m (insert_srt h1 hne) (fun x hx => by
        rcases insert_mem hx with rfl | hx
        · exact ⟨hpe, hqr⟩
        · exact h2 x hx) s2 (fun x hx => h4 x (List.mem_cons_of_mem _ hx)) (fun n2 hn2' x hx r2 r' e2 e' => by
        rcases insert_mem hx with rfl | hx
        · have hh := s1 n2 hn2'
          rw [cmp_names hn1 (h4 n2 (List.mem_cons_of_mem _ hn2')).1, hn2, e2, cmpL_app] at hh
          have : r' = r := by
            have e3 : names to ++ r' = names to ++ r := e'.symm.trans hq
            exact List.append_cancel_left e3
          rw [this]
          exact hh
        · exact h5 n2 (List.mem_cons_of_mem _ hn2') x hx r2 r' e2 e') h
      refine ⟨k1, k2, ?_, ?_, fun x hx => ?_⟩
      · rw [k3, hins, relE_cons, dn_some.2 hn2, List.append_assoc]
        rfl
      · rw [k4, insert_len, List.length_cons]; omega
      · rcases k5 x hx with hx | ⟨y, hy, e⟩
        · rcases insert_mem hx with rfl | hx
          · exact .inr ⟨n, by simp, rfl⟩
          · exact .inl hx
        · exact .inr ⟨y, List.mem_cons_of_mem _ hy, e⟩
theorem relE_within (t : List Nd) {p : List UInt8} (hr : ∀ n ∈ t, right n.p = true) (hp : right p = true) : relE (withinP t p true) (names p) = relE t (names p) := by
  induction t with
  | nil => rfl
  | cons x t ih =>
    have ih := ih (fun n hn => hr n (List.mem_cons_of_mem _ hn))
    unfold withinP at ih ⊢
    by_cases h : within x.p p = true
    · rw [List.filter_cons_of_pos (by simpa using h), relE_cons, relE_cons, ih]
    · rw [List.filter_cons_of_neg (by simpa using h), relE_cons, ih]
      cases e : dn (names p) (names x.p) with
      | none => rfl
      | some r => exact absurd ((within_iff (hr x (by simp)) hp).2 ⟨r, dn_some.1 e⟩) h
/-- A move that is done. -/
theorem move_ok {t : List Nd} (ht : Tree t) {frm to : List UInt8} {m : List Nd} (h : moveP t frm to = (m, 0)) : right frm = true ∧ right to = true ∧ frm ≠ [] ∧ to ≠ [] ∧ (∃ a, find t frm = some a) ∧
    Srt m ∧ (∀ x ∈ m, x.p ≠ [] ∧ right x.p = true) ∧ relE m (names to) = relE t (names frm) ∧ m.length ≤ t.length + t.length ∧ ∀ x ∈ m, ∃ n ∈ t, x.data = n.data := by
  unfold moveP at h
  by_cases hb : badMove frm to = true
  · rw [if_pos hb] at h; cases h
  · rw [if_neg hb] at h
    unfold badMove at hb
    simp only [Bool.or_eq_true, beq_iff_eq, Bool.not_eq_true', not_or, Bool.not_eq_false] at hb
    obtain ⟨b1, b2, b3, b4, b5⟩ := hb
    cases ef : find t frm with
    | none => rw [ef] at h; cases h
    | some a =>
      rw [ef] at h
      simp only at h
      by_cases hpc : parentC t to ≠ 0
      · rw [if_pos hpc] at h
        injection h with _ h
        exact absurd h (by omega)
      · rw [if_neg hpc] at h
        have hfin : moveFin t frm to = (m, 0) := by
          cases et : find t to with
          | none => rw [et] at h; exact h
          | some b =>
            rw [et] at h
            simp only at h
            by_cases hk : a.kind = 1 ∨ b.kind = 1
            · rw [if_pos hk] at h; cases h
            · rw [if_neg hk] at h; exact h
        unfold moveFin at hfin
        cases em : mvAll frm to (withinP (withinP t frm false) to false) (withinP t frm true) with
        | none => rw [em] at hfin; cases hfin
        | some m' =>
          rw [em] at hfin
          injection hfin with e _
          subst e
          have hnr : ∀ n ∈ t, n.p ≠ [] ∧ right n.p = true := fun n hn => ⟨(node_right (ht.node n hn)).1, (node_right (ht.node n hn)).2.1⟩
          have hte : names to ≠ [] := fun e => b2 (by rw [← glue_names b4, e]; rfl)
          have hsub1 : ∀ x ∈ withinP (withinP t frm false) to false, x ∈ t ∧ ¬ within x.p to = true := fun x hx => by
            have h1 := List.mem_filter.1 hx
            have h2 := List.mem_filter.1 h1.1
            refine ⟨h2.1, ?_⟩
            have := h1.2
            simpa using this
          have hsub2 : ∀ x ∈ withinP t frm true, x ∈ t ∧ within x.p frm = true := fun x hx => by
            have h1 := List.mem_filter.1 hx
            exact ⟨h1.1, by have := h1.2; simpa using this⟩
          have hrest : ∀ x ∈ withinP (withinP t frm false) to false, ∀ r, names x.p ≠ names to ++ r := fun x hx r e => by
            obtain ⟨h1, h2⟩ := hsub1 x hx
            exact h2 ((within_iff (hnr x h1).2 b4).2 ⟨r, e⟩)
          have hs1 : Srt (withinP (withinP t frm false) to false) := List.Pairwise.sublist ((List.filter_sublist).trans List.filter_sublist) ht.srt
          have hs2 : Srt (withinP t frm true) := List.Pairwise.sublist List.filter_sublist ht.srt
          obtain ⟨k1, k2, k3, k4, k5⟩ := mv_rel b3 b4 hte _ _ _ hs1 (fun x hx => hnr x (hsub1 x hx).1) hs2 (fun n hn => ⟨(hnr n (hsub2 n hn).1).2, (within_iff (hnr n (hsub2 n hn).1).2 b3).1 (hsub2 n hn).2⟩)
            (fun n _ x hx r r' _ e => absurd e (hrest x hx r')) em
          refine ⟨b3, b4, b1, b2, ⟨a, rfl⟩, k1, k2, ?_, ?_, fun x hx => ?_⟩
          · rw [k3, relE_none hrest, List.nil_append, relE_within t (fun n hn => (hnr n hn).2) b3]
          · rw [k4]
            have h1 : (withinP (withinP t frm false) to false).length ≤ t.length := Nat.le_trans (List.length_filter_le _ _) (List.length_filter_le _ _)
            have h2 : (withinP t frm true).length ≤ t.length := List.length_filter_le _ _
            omega
          · rcases k5 x hx with hx | ⟨n, hn, e⟩
            · exact ⟨x, (hsub1 x hx).1, rfl⟩
            · exact ⟨n, (hsub2 n hn).1, e⟩
/-- Another mode. -/
def turnM (v : Int) (n : Nd) : Nd := if n.kind ≠ 3 then ⟨n.p, n.kind, v, n.time, n.data⟩ else n
theorem turnM_p (v : Int) (n : Nd) : (turnM v n).p = n.p ∧ (turnM v n).kind = n.kind ∧ (turnM v n).data = n.data := by
  unfold turnM
  by_cases h : n.kind ≠ 3
  · rw [if_pos h]; exact ⟨rfl, rfl, rfl⟩
  · rw [if_neg h]; exact ⟨rfl, rfl, rfl⟩
theorem turnM_relE (v : Int) (t : List Nd) (N : Nms) : relE (t.map (turnM v)) N = relE t N := by
  unfold relE
  rw [List.filterMap_map]
  congr 1
  funext n
  simp only [Function.comp_apply, (turnM_p v n).1, (turnM_p v n).2.1, (turnM_p v n).2.2]
theorem turnM_srt {v : Int} {t : List Nd} (h : Srt t) : Srt (t.map (turnM v)) := by
  unfold Srt
  rw [List.pairwise_map]
  exact h.imp fun h => by rw [(turnM_p v _).1, (turnM_p v _).1]; exact h
theorem find_relE {t : List Nd} {p : List UInt8} (hr : ∀ n ∈ t, right n.p = true) (hp : right p = true) (hu : Uniq t) (k : Int) (d : List UInt8) : ([], k, d) ∈ relE t (names p) ↔ ∃ n, find t p = some n ∧ n.kind = k ∧ n.data = d := by
  unfold relE
  rw [List.mem_filterMap]
  constructor
  · rintro ⟨n, hn, h⟩
    cases e : dn (names p) (names n.p) with
    | none => rw [e] at h; cases h
    | some r =>
      rw [e] at h
      injection h with h
      injection h with h1 h2
      injection h2 with h2 h3
      subst h1
      have e2 := dn_some.1 e
      rw [List.append_nil] at e2
      have : n.p = p := by rw [← glue_names (hr n hn), ← glue_names hp, e2]
      exact ⟨n, by rw [← this]; exact hu.find_ hn, h2, h3⟩
  · rintro ⟨n, hf, rfl, rfl⟩
    have h1 := List.find?_some hf
    have h2 : n.p = p := by simpa using h1
    exact ⟨n, List.mem_of_find?_eq_some hf, by rw [h2, show dn (names p) (names p) = some [] from dn_some.2 (by simp)]; rfl⟩
theorem glue_len (l : List (List UInt8)) (h : ∀ x ∈ l, x.length ≤ 12) : (glue l).length ≤ 13 * l.length := by
  induction l with
  | nil => simp [glue]
  | cons a l ih =>
    have h1 := h a (by simp)
    have h2 := ih (fun x hx => h x (List.mem_cons_of_mem _ hx))
    cases l with
    | nil => simp only [glue, List.length_cons, List.length_nil]; omega
    | cons b l =>
      show (a ++ 47 :: glue (b :: l)).length ≤ _
      rw [List.length_append, List.length_cons, List.length_cons]
      omega
theorem right_len {p : List UInt8} (h : right p = true) : p.length ≤ 208 := by
  rw [← glue_names h]
  have h1 := glue_len (names p) (fun x hx => name_len (names_each_name p x hx))
  have h2 := names_len16 p
  omega
/-- What is moved, whatever its modes become, is alike, and has its print. -/
theorem moves_like {t : List Nd} (ht : Tree t) {frm to : List UInt8} {m : List Nd} (h : moveP t frm to = (m, 0)) (v : Int) : likeF t (m.map (turnM v)) 17 frm to = true ∧ Uniq (m.map (turnM v)) ∧
    printP t frm = some (Mix.of (textP t frm)) ∧ printP (m.map (turnM v)) to = some (Mix.of (textP t frm)) := by
  obtain ⟨h1, h2, h3, h4, ⟨a, ha⟩, h5, h6, h7, _, _⟩ := move_ok ht h
  have hu := ht.uniq
  have hr : ∀ n ∈ t, right n.p = true := fun n hn => (node_right (ht.node n hn)).2.1
  have hsm := turnM_srt (v := v) h5
  have hmm : ∀ x ∈ m.map (turnM v), x.p ≠ [] ∧ right x.p = true := fun x hx => by
    obtain ⟨y, hy, rfl⟩ := List.mem_map.1 hx
    rw [(turnM_p v y).1]
    exact h6 y hy
  have hum : Uniq (m.map (turnM v)) := srt_uniq hsm (fun x hx => (hmm x hx).1)
  have hrel : relE (m.map (turnM v)) (names to) = relE t (names frm) := by rw [turnM_relE, h7]
  have hmem : ([], a.kind, a.data) ∈ relE (m.map (turnM v)) (names to) := by
    rw [hrel]
    exact (find_relE hr h1 hu a.kind a.data).2 ⟨a, ha, rfl, rfl⟩
  obtain ⟨b, hb, hk, hd⟩ := (find_relE (fun n hn => (hmm n hn).2) h2 hum a.kind a.data).1 hmem
  have hat : atP t frm = some a := by unfold atP; rw [if_neg h3, ha]
  have hbt : atP (m.map (turnM v)) to = some b := by unfold atP; rw [if_neg h4, hb]
  have hl := like_of_rel hu hum hr (fun n hn => (hmm n hn).2) 17 frm to a b (by omega) h1 h2 hat hbt hk.symm hd.symm (by unfold rel; rw [hrel])
  refine ⟨hl, hum, printP_some (.inr (by rw [ha]; simp)), ?_⟩
  rw [printP_some (.inr (by rw [hb]; simp)), like_text hu hum 17 frm to hl]
end Tr
end Go.Proofs.Yteadcblmomngpaa
namespace Go.Proofs.Yteadcblmomngpaa
open Go Go.RowKit W Pth
namespace Vint
theorem u8_ofNat {a b : Nat} (ha : a < 256) (hb : b < 256) (h : UInt8.ofNat a = UInt8.ofNat b) : a = b := by
  have := congrArg UInt8.toNat h
  rw [UInt8.toNat_ofNat', UInt8.toNat_ofNat', Nat.mod_eq_of_lt (by omega), Nat.mod_eq_of_lt (by omega)] at this
  exact this
theorem num_inj (k : Nat) : ∀ (a b : Nat) (r s : List UInt8), a < k → num a ++ r = num b ++ s → a = b ∧ r = s := by
  induction k with
  | zero => intro a b r s h; omega
  | succ k ih =>
    intro a b r s hk h
    by_cases ha : a < 128
    · rw [num_small ha] at h
      by_cases hb : b < 128
      · rw [num_small hb] at h
        injection h with h1 h2
        exact ⟨u8_ofNat (by omega) (by omega) h1, h2⟩
      · rw [num_big hb] at h
        injection h with h1 h2
        have := u8_ofNat (by omega) (by omega) h1
        omega
    · rw [num_big ha] at h
      by_cases hb : b < 128
      · rw [num_small hb] at h
        injection h with h1 h2
        have := u8_ofNat (by omega) (by omega) h1
        omega
      · rw [num_big hb] at h
        injection h with h1 h2
        have h3 := u8_ofNat (by omega) (by omega) h1
        obtain ⟨h4, h5⟩ := ih _ _ r s (by omega) h2
        exact ⟨by omega, h5⟩
theorem text_inj {a b r s : List UInt8} (h : text a ++ r = text b ++ s) : a = b ∧ r = s := by
  unfold text at h
  rw [List.append_assoc, List.append_assoc] at h
  obtain ⟨h1, h2⟩ := num_inj (a.length + 1) _ _ _ _ (by omega) h
  exact List.append_inj h2 h1
theorem be8_inj {x y : UInt64} (h : be8 x = be8 y) : x = y := by
  unfold be8 at h
  have e : ∀ k, k < 8 → (x.toNat / 256 ^ (7 - k)) % 256 = (y.toNat / 256 ^ (7 - k)) % 256 := fun k hk => by
    have h1 := congrArg (fun l => l[k]?) h
    simp only [List.getElem?_map, List.getElem?_range hk, Option.map_some] at h1
    have h2 := congrArg UInt8.toNat (Option.some.inj h1)
    rwa [UInt8.toNat_ofNat', UInt8.toNat_ofNat'] at h2
  have hx := x.toNat_lt
  have hy := y.toNat_lt
  apply UInt64.toNat_inj.1
  have e0 := e 0 (by omega)
  have e1 := e 1 (by omega)
  have e2 := e 2 (by omega)
  have e3 := e 3 (by omega)
  have e4 := e 4 (by omega)
  have e5 := e 5 (by omega)
  have e6 := e 6 (by omega)
  have e7 := e 7 (by omega)
  simp only [Nat.reduceSub, Nat.reducePow] at e0 e1 e2 e3 e4 e5 e6 e7
  omega
theorem sum_inj {x y u v : UInt64} {r s : List UInt8} (h : sum x y ++ r = sum u v ++ s) : (x, y) = (u, v) ∧ r = s := by
  obtain ⟨h1, h2⟩ := List.append_inj h (by unfold sum; rw [List.length_append, List.length_append, be8_length, be8_length, be8_length, be8_length])
  unfold sum at h1
  obtain ⟨h3, h4⟩ := List.append_inj h1 (by rw [be8_length, be8_length])
  exact ⟨by rw [be8_inj h3, be8_inj h4], h2⟩
end Vint
namespace Tr
/-! ### the order of what is beneath -/
theorem sorted_ext {α : Type} {R : α → α → Prop} (hR : ∀ x y, R x y → R y x → False) : ∀ {l m : List α}, l.Pairwise R → m.Pairwise R → (∀ x, x ∈ l ↔ x ∈ m) → l = m := by
  intro l
  induction l with
  | nil =>
    intro m _ _ h
    cases m with
    | nil => rfl
    | cons b m => exact absurd ((h b).2 (by simp)) (by simp)
  | cons a l ih =>
    intro m hl hm h
    cases m with
    | nil => exact absurd ((h a).1 (by simp)) (by simp)
    | cons b m =>
      obtain ⟨l1, l2⟩ := List.pairwise_cons.1 hl
      obtain ⟨m1, m2⟩ := List.pairwise_cons.1 hm
      have hab : a = b := by
        rcases List.mem_cons.1 ((h a).1 (by simp)) with e | ha
        · exact e
        · rcases List.mem_cons.1 ((h b).2 (by simp)) with e | hb
          · exact e.symm
          · exact (hR a b (l1 b hb) (m1 a ha)).elim
      subst hab
      rw [ih l2 m2 fun x => ?_]
      constructor
      · intro hx
        rcases List.mem_cons.1 ((h x).1 (List.mem_cons_of_mem _ hx)) with e | hx'
        · subst e; exact (hR x x (l1 x hx) (l1 x hx)).elim
        · exact hx'
      · intro hx
        rcases List.mem_cons.1 ((h x).2 (List.mem_cons_of_mem _ hx)) with e | hx'
        · subst e; exact (hR x x (m1 x hx) (m1 x hx)).elim
        · exact hx'
theorem mem_relE {t : List Nd} {N r : Nms} {k : Int} {d : List UInt8} : (r, k, d) ∈ relE t N ↔ ∃ n ∈ t, names n.p = N ++ r ∧ n.kind = k ∧ n.data = d := by
  unfold relE
  rw [List.mem_filterMap]
  constructor
  · rintro ⟨n, hn, h⟩
    cases e : dn N (names n.p) with
    | none => rw [e] at h; cases h
    | some r' =>
      rw [e] at h
      injection h with h
      injection h with h1 h2
      injection h2 with h2 h3
      subst h1
      exact ⟨n, hn, dn_some.1 e, h2, h3⟩
  · rintro ⟨n, hn, h1, rfl, rfl⟩
    exact ⟨n, hn, by rw [dn_some.2 h1]; rfl⟩
theorem mem_rel {t : List Nd} {N r : Nms} {k : Int} {d : List UInt8} : (r, k, d) ∈ rel t N ↔ r ≠ [] ∧ (r, k, d) ∈ relE t N := by
  unfold rel
  rw [List.mem_filterMap]
  constructor
  · rintro ⟨⟨r', y⟩, h1, h2⟩
    cases r' with
    | nil => cases h2
    | cons a r' =>
      injection h2 with h2
      rw [← h2]
      refine ⟨?_, h1⟩
      injection h2 with h3 _
      rw [← h3]
      simp
  · rintro ⟨h1, h2⟩
    refine ⟨_, h2, ?_⟩
    cases r with
    | nil => exact absurd rfl h1
    | cons a r => rfl
theorem rel_sorted {t : List Nd} (ht : Tree t) (N : Nms) : (rel t N).Pairwise fun x y => cmpL x.1 y.1 < 0 := by
  unfold rel relE
  rw [List.filterMap_filterMap, List.pairwise_filterMap]
  have hr : ∀ n ∈ t, right n.p = true := fun n hn => (node_right (ht.node n hn)).2.1
  refine List.Pairwise.imp_of_mem (fun {n m} hn hm h => ?_) ht.srt
  intro x hx y hy
  have key : ∀ (n : Nd) (x : Rl), ((dn N (names n.p)).map fun r => ((r, n.kind, n.data) : Rl)).bind nonE = some x → names n.p = N ++ x.1 := fun n x hx => by
    cases e : dn N (names n.p) with
    | none => rw [e] at hx; cases hx
    | some r =>
      rw [e] at hx
      cases r with
      | nil => cases hx
      | cons a r =>
        injection hx with hx
        subst hx
        exact dn_some.1 e
  rw [cmp_names (hr n hn) (hr m hm), key n x hx, key m y hy, cmpL_app] at h
  exact h
/-- Who is above one that is there. -/
theorem above {t : List Nd} (ht : Tree t) {p : List UInt8} (hp : right p = true) (s : List UInt8) : ∀ (k : Nat) (r : Nms) (n : Nd), r.length = k → n ∈ t → names n.p = names p ++ s :: r → ∃ u ∈ t, parent u.p = some p ∧ names u.p = names p ++ [s] := by
  intro k
  induction k with
  | zero =>
    intro r n hr hn h
    obtain rfl : r = [] := List.eq_nil_of_length_eq_zero hr
    exact ⟨n, hn, (kid_iff hp).2 ⟨s, h⟩, h⟩
  | succ k ih =>
    intro r n hr hn h
    have hre : r ≠ [] := fun e => by rw [e] at hr; cases hr
    obtain ⟨r', a, rfl⟩ : ∃ r' a, r = r' ++ [a] := ⟨r.dropLast, r.getLast hre, (List.dropLast_concat_getLast hre).symm⟩
    have hl : r'.length = k := by rw [List.length_append] at hr; simpa using hr
    have hns : ∀ x ∈ names p ++ s :: r', name x = true := fun x hx => names_each_name n.p x (by
      rw [h]
      rcases List.mem_append.1 hx with hx | hx
      · exact List.mem_append_left _ hx
      · rcases List.mem_cons.1 hx with rfl | hx
        · simp
        · simp [hx])
    have hnl : (names p ++ s :: r').length ≤ 16 := by
      have := names_len16 n.p
      rw [h] at this
      simp at this ⊢
      omega
    have hq := names_glue hns hnl
    have hqr := right_glue hns hnl
    have hpar : parent n.p = some (glue (names p ++ s :: r')) := (kid_iff hqr).2 ⟨a, by rw [hq, h]; simp⟩
    rcases ht.up n hn with e | ⟨m, hm, e, _⟩
    · rw [hpar] at e
      have e2 : glue (names p ++ s :: r') = [] := e
      rw [e2] at hq
      have : names p ++ s :: r' = [] := by rw [← hq]; rfl
      simp at this
    · rw [hpar] at e
      have e2 : m.p = glue (names p ++ s :: r') := e
      exact ih r' m hl hm (by rw [e2, hq])
theorem kid_dir {t : List Nd} (ht : Tree t) {p : List UInt8} {x u : Nd} (hx : atP t p = some x) (hu : u ∈ t) (h : parent u.p = some p) : x.kind = 1 := by
  unfold atP at hx
  by_cases hp : p = []
  · rw [if_pos hp] at hx
    obtain rfl := Option.some.inj hx
    rfl
  · rw [if_neg hp] at hx
    rcases ht.up u hu with e | ⟨m, hm, e, hk⟩
    · rw [h] at e; exact absurd e hp
    · rw [h] at e
      have e2 : m.p = p := e
      have := ht.uniq.find_ hm
      rw [e2, hx] at this
      obtain rfl := Option.some.inj this
      exact hk
theorem like_mk {a b : List Nd} {d : Nat} {p q : List UInt8} {x y : Nd} (hx : atP a p = some x) (hy : atP b q = some y) (h1 : x.kind = y.kind) (h2 : x.data = y.data) (h3 : (belowP a x).length = (belowP b y).length)
    (h4 : ∀ i (i1 : i < (belowP a x).length) (i2 : i < (belowP b y).length), base (belowP a x)[i] = base (belowP b y)[i] ∧ likeF a b d (belowP a x)[i] (belowP b y)[i] = true) : likeF a b (d + 1) p q = true := by
  rw [like_some hx hy]
  simp only [Bool.and_eq_true, beq_iff_eq, decide_eq_true_eq, List.all_eq_true]
  refine ⟨⟨h1, h2⟩, h3, fun s hs => ?_⟩
  obtain ⟨i, hi, rfl⟩ := List.getElem_of_mem hs
  have hl : i < (belowP a x).length := by simp at hi; omega
  simp only [List.getElem_zip]
  exact h4 i hl (by omega)
theorem like_symm {a b : List Nd} : ∀ (d : Nat) (p q : List UInt8), likeF a b d p q = true → likeF b a d q p = true := by
  intro d
  induction d with
  | zero => intro p q h; cases h
  | succ d ih =>
    intro p q h
    obtain ⟨x, y, hx, hy, hk, hdt, hl, hi⟩ := like_parts h
    exact like_mk hy hx hk.symm hdt.symm hl.symm fun i i1 i2 => ⟨(hi i i2 i1).1.symm, ih _ _ (hi i i2 i1).2⟩
theorem like_mem {a b : List Nd} (ta : Tree a) (tb : Tree b) : ∀ (d : Nat) (p q : List UInt8), right p = true → right q = true → likeF a b d p q = true → ∀ (r : Nms) (k : Int) (dt : List UInt8), r ≠ [] → (r, k, dt) ∈ relE a (names p) → (r, k, dt) ∈ relE b (names q) := by
  intro d
  induction d with
  | zero => intro p q _ _ h; cases h
  | succ d ih =>
    intro p q hp hq h r k dt hr hm
    obtain ⟨x, y, hx, hy, hk, hdt, hl, hi⟩ := like_parts h
    obtain ⟨n, hn, hnn, hnk, hnd⟩ := mem_relE.1 hm
    cases r with
    | nil => exact absurd rfl hr
    | cons s r =>
      obtain ⟨u, hu, hup, hun⟩ := above ta hp s r.length r n rfl hn hnn
      have hx1 := kid_dir ta hx hu hup
      have hy1 : y.kind = 1 := hk ▸ hx1
      have hku : u ∈ kids a p := List.mem_filter.2 ⟨hu, by simpa using hup⟩
      obtain ⟨i, hi1, hiu⟩ := List.getElem_of_mem hku
      rw [below_kids hx1, below_kids hy1] at hl
      simp only [below_kids hx1, below_kids hy1] at hi
      rw [(atP_some hx).2, (atP_some hy).2, List.length_map, List.length_map] at hl
      simp only [(atP_some hx).2, (atP_some hy).2] at hi
      have hi2 : i < (kids b q).length := by omega
      obtain ⟨hb, hlk⟩ := hi i (by simpa using hi1) (by simpa using hi2)
      simp only [List.getElem_map] at hb hlk
      rw [hiu] at hb hlk
      have hv := List.getElem_mem hi2
      have hvb := kids_mem hv
      have hvp : parent (kids b q)[i].p = some q := by have := (List.mem_filter.1 hv).2; simpa using this
      generalize (kids b q)[i] = v at *
      obtain ⟨s', hs'⟩ := (kid_iff hq).1 hvp
      have hss : s' = s := by rw [← base_of hs', ← base_of hun]; exact hb.symm
      subst hss
      by_cases hre : r = []
      · subst hre
        have hnu : n = u := by
          have h1 : n.p = u.p := by rw [← glue_names (node_right (ta.node n hn)).2.1, ← glue_names (node_right (ta.node u hu)).2.1, hnn, hun]
          have h2 := ta.uniq.find_ hn
          have h3 := ta.uniq.find_ hu
          rw [h1, h3] at h2
          exact (Option.some.inj h2).symm
        subst hnu
        cases d with
        | zero => cases hlk
        | succ d =>
          obtain ⟨x', y', hx', hy', hk', hd', _⟩ := like_parts hlk
          rw [atP_mem ta.uniq hn] at hx'
          rw [atP_mem tb.uniq hvb] at hy'
          obtain rfl := Option.some.inj hx'
          obtain rfl := Option.some.inj hy'
          exact mem_relE.2 ⟨v, hvb, hs', by rw [← hk', hnk], by rw [← hd', hnd]⟩
      · have h1 : (r, k, dt) ∈ relE a (names u.p) := mem_relE.2 ⟨n, hn, by rw [hun, hnn]; simp, hnk, hnd⟩
        have h2 := ih u.p v.p (node_right (ta.node u hu)).2.1 (node_right (tb.node v hvb)).2.1 hlk r k dt hre h1
        obtain ⟨m, hm', h3, h4, h5⟩ := mem_relE.1 h2
        exact mem_relE.2 ⟨m, hm', by rw [h3, hs']; simp, h4, h5⟩
theorem like_rel {a b : List Nd} (ta : Tree a) (tb : Tree b) {d : Nat} {p q : List UInt8} (hp : right p = true) (hq : right q = true) (h : likeF a b d p q = true) : rel a (names p) = rel b (names q) := by
  refine sorted_ext (R := fun x y : Rl => cmpL x.1 y.1 < 0) (fun x y h1 h2 => ?_) (rel_sorted ta _) (rel_sorted tb _) fun x => ?_
  · have := cmpL_neg x.1 y.1
    omega
  · obtain ⟨r, k, dt⟩ := x
    rw [mem_rel, mem_rel]
    exact ⟨fun ⟨h1, h2⟩ => ⟨h1, like_mem ta tb d p q hp hq h r k dt h1 h2⟩, fun ⟨h1, h2⟩ => ⟨h1, like_mem tb ta d q p hq hp (like_symm d p q h) r k dt h1 h2⟩⟩
/-! ### the reference's answer -/
def movedP (t : List Nd) (p : List UInt8) : List Nd := t.filterMap fun n => match rebase n.p p [] with
  | some (c :: q) => some ⟨c :: q, n.kind, 0, 0, n.data⟩
  | _ => none
def refLikeP (a : List Nd) (p : List UInt8) (b : List Nd) (q : List UInt8) : Bool := match atP a p, atP b q with
  | some x, some y => x.kind == y.kind && (x.data == y.data && decide (movedP a p = movedP b q))
  | _, _ => false
theorem fm_congr {α β : Type} {f g : α → Option β} : ∀ {l : List α}, (∀ x ∈ l, f x = g x) → l.filterMap f = l.filterMap g
  | [], _ => rfl
  | x :: l, h => by rw [List.filterMap_cons, List.filterMap_cons, h x (by simp), fm_congr (fun y hy => h y (List.mem_cons_of_mem _ hy))]
def rlNd (x : Rl) : Nd := ⟨glue x.1, x.2.1, 0, 0, x.2.2⟩
theorem moved_rel {t : List Nd} (ht : Tree t) {p : List UInt8} (hp : right p = true) : movedP t p = (rel t (names p)).map rlNd := by
  unfold movedP rel relE
  rw [List.filterMap_filterMap, List.map_filterMap]
  refine fm_congr fun n hn => ?_
  have hr := (node_right (ht.node n hn)).2.1
  cases e : dn (names p) (names n.p) with
  | none =>
    have : rebase n.p p [] = none := by
      unfold rebase
      rw [if_neg (fun h => ?_)]
      obtain ⟨r, hr'⟩ := (within_iff hr hp).1 h.1
      rw [dn_some.2 hr'] at e
      cases e
    rw [this]
    rfl
  | some r =>
    have hnr := dn_some.1 e
    have hre : rebase n.p p [] = some (glue r) := by
      unfold rebase
      have h1 : (cut ([] : List UInt8) ++ (cut n.p).drop (cut p).length) = r := by
        rw [cut_right hr, cut_right hp, hnr, List.drop_left' rfl]
        simp [cut]
      have h16 : r.length ≤ 16 := by
        have := names_len16 n.p
        rw [hnr, List.length_append] at this
        omega
      rw [h1, if_pos ⟨(within_iff hr hp).2 ⟨r, hnr⟩, rfl, h16⟩]
    rw [hre]
    cases r with
    | nil => rfl
    | cons s r =>
      have hg : glue (s :: r) ≠ [] := glue_ne (by simp) (fun x hx => names_each_name n.p x (by rw [hnr]; exact List.mem_append_right _ hx))
      cases eg : glue (s :: r) with
      | nil => exact absurd eg hg
      | cons c g =>
        show some _ = some (rlNd (s :: r, n.kind, n.data))
        unfold rlNd
        rw [eg]
theorem rel_names {t : List Nd} {N : Nms} {x : Rl} (h : x ∈ rel t N) : ∀ s ∈ x.1, name s = true := by
  obtain ⟨r, k, d⟩ := x
  obtain ⟨_, h2⟩ := mem_rel.1 h
  obtain ⟨n, _, hn, _⟩ := mem_relE.1 h2
  exact fun s hs => names_each_name n.p s (by rw [hn]; exact List.mem_append_right _ hs)
theorem map_rl_inj : ∀ {l m : List Rl}, (∀ x ∈ l, ∀ s ∈ x.1, name s = true) → (∀ x ∈ m, ∀ s ∈ x.1, name s = true) → l.map rlNd = m.map rlNd → l = m
  | [], [], _, _, _ => rfl
  | [], _ :: _, _, _, h => by cases h
  | _ :: _, [], _, _, h => by cases h
  | x :: l, y :: m, hl, hm, h => by
    rw [List.map_cons, List.map_cons] at h
    injection h with h1 h2
    have h3 := map_rl_inj (fun z hz => hl z (List.mem_cons_of_mem _ hz)) (fun z hz => hm z (List.mem_cons_of_mem _ hz)) h2
    obtain ⟨r, k, d⟩ := x
    obtain ⟨r', k', d'⟩ := y
    unfold rlNd at h1
    injection h1 with h4 h5 _ _ h6
    have h4' : glue r = glue r' := h4
    have a1 : cut (glue r) = r := cut_glue (hl (r, k, d) (by simp))
    have a2 : cut (glue r') = r' := cut_glue (hm (r', k', d') (by simp))
    have : r = r' := by rw [← a1, ← a2, h4']
    simp only at h5 h6
    rw [this, h5, h6, h3]
theorem atP_right {t : List Nd} (ht : Tree t) {p : List UInt8} {x : Nd} (h : atP t p = some x) : right p = true := by
  obtain ⟨h1, h2⟩ := atP_some h
  rcases h1 with rfl | h1
  · rw [← h2]; rfl
  · rw [← h2]; exact (node_right (ht.node x h1)).2.1
/-- Both answers are one. -/
theorem like_ref {a b : List Nd} (ta : Tree a) (tb : Tree b) (p q : List UInt8) : likeF a b 17 p q = refLikeP a p b q := by
  unfold refLikeP
  cases hx : atP a p with
  | none => exact like_none1 hx
  | some x =>
    cases hy : atP b q with
    | none => exact like_none2 hy
    | some y =>
      have hp := atP_right ta hx
      have hq := atP_right tb hy
      rw [Bool.eq_iff_iff]
      simp only [Bool.and_eq_true, beq_iff_eq, decide_eq_true_eq]
      constructor
      · intro h
        obtain ⟨x', y', hx', hy', h1, h2, _⟩ := like_parts h
        rw [hx] at hx'
        rw [hy] at hy'
        obtain rfl := Option.some.inj hx'
        obtain rfl := Option.some.inj hy'
        exact ⟨h1, h2, by rw [moved_rel ta hp, moved_rel tb hq, like_rel ta tb hp hq h]⟩
      · rintro ⟨h1, h2, h3⟩
        rw [moved_rel ta hp, moved_rel tb hq] at h3
        exact like_of_rel ta.uniq tb.uniq (fun n hn => (node_right (ta.node n hn)).2.1) (fun n hn => (node_right (tb.node n hn)).2.1) 17 p q x y (by omega) hp hq hx hy h1 h2 (map_rl_inj (fun _ => rel_names) (fun _ => rel_names) h3)
/-! ### two texts of one sum -/
def clashL (a b : List Nd) : List (List UInt8) := textP a [] :: textP b [] :: (a.map fun n => textP a n.p) ++ (b.map fun n => textP b n.p)
def Clash (a b : List Nd) : Prop := ∃ u ∈ clashL a b, ∃ v ∈ clashL a b, u ≠ v ∧ Mix.of u = Mix.of v
theorem entries_inj {a b : List Nd} : ∀ (l m : List Nd), (∀ n ∈ l, 1 ≤ n.kind ∧ n.kind ≤ 3) → (∀ n ∈ m, 1 ≤ n.kind ∧ n.kind ≤ 3) → l.flatMap (entryP a) = m.flatMap (entryP b) →
    l.length = m.length ∧ ∀ i (h1 : i < l.length) (h2 : i < m.length), base l[i].p = base m[i].p ∧ l[i].kind = m[i].kind ∧ Mix.of (textP a l[i].p) = Mix.of (textP b m[i].p) := by
  have hpos : ∀ (t : List Nd) (n : Nd) (r : List UInt8), entryP t n ++ r ≠ [] := fun t n r h => by
    have := congrArg List.length h
    unfold entryP at this
    rw [List.length_append, List.length_append, List.length_append, sum_length] at this
    simp at this
  intro l
  induction l with
  | nil =>
    intro m _ _ h
    cases m with
    | nil => exact ⟨rfl, fun i h1 => absurd h1 (by simp)⟩
    | cons y m => exact absurd h.symm (by rw [List.flatMap_cons]; exact hpos b y _)
  | cons x l ih =>
    intro m hl hm h
    cases m with
    | nil => exact absurd h (by rw [List.flatMap_cons]; exact hpos a x _)
    | cons y m =>
      rw [List.flatMap_cons, List.flatMap_cons] at h
      obtain ⟨R1, hR1⟩ : ∃ R1, l.flatMap (entryP a) = R1 := ⟨_, rfl⟩
      obtain ⟨R2, hR2⟩ : ∃ R2, m.flatMap (entryP b) = R2 := ⟨_, rfl⟩
      rw [hR1, hR2] at h
      unfold entryP at h
      simp only [List.append_assoc] at h
      obtain ⟨h1, h2⟩ := Vint.text_inj h
      obtain ⟨h3, h4⟩ := Vint.num_inj _ _ _ _ _ (Nat.lt_succ_self _) h2
      obtain ⟨h5, h6⟩ := Vint.sum_inj h4
      obtain ⟨k1, k2⟩ := ih m (fun n hn => hl n (List.mem_cons_of_mem _ hn)) (fun n hn => hm n (List.mem_cons_of_mem _ hn)) (by rw [hR1, hR2, h6])
      have hkx := hl x (by simp)
      have hky := hm y (by simp)
      have hkk : x.kind = y.kind := by
        have e : ∀ z : Int, 1 ≤ z → z ≤ 3 → (UInt64.ofInt z).toNat = z.toNat := fun z z1 z2 => by
          have : z = 1 ∨ z = 2 ∨ z = 3 := by omega
          rcases this with rfl | rfl | rfl <;> rfl
        rw [e _ hkx.1 hkx.2, e _ hky.1 hky.2] at h3
        omega
      refine ⟨by simp [k1], fun i i1 i2 => ?_⟩
      cases i with
      | zero => exact ⟨h1, hkk, Prod.ext (Prod.mk.inj h5).1 (Prod.mk.inj h5).2⟩
      | succ i => exact k2 i (by simpa using i1) (by simpa using i2)
theorem mem_clash1 {a b : List Nd} {p : List UInt8} {x : Nd} (h : atP a p = some x) : textP a p ∈ clashL a b := by
  obtain ⟨h1, h2⟩ := atP_some h
  unfold clashL
  rcases h1 with rfl | h1
  · rw [← h2]; simp [root]
  · rw [← h2]
    simp only [List.cons_append, List.mem_cons, List.mem_append, List.mem_map]
    exact .inr (.inr (.inl ⟨x, h1, rfl⟩))
theorem mem_clash2 {a b : List Nd} {p : List UInt8} {x : Nd} (h : atP b p = some x) : textP b p ∈ clashL a b := by
  obtain ⟨h1, h2⟩ := atP_some h
  unfold clashL
  rcases h1 with rfl | h1
  · rw [← h2]; simp [root]
  · rw [← h2]
    simp only [List.cons_append, List.mem_cons, List.mem_append, List.mem_map]
    exact .inr (.inr (.inr ⟨x, h1, rfl⟩))
theorem atP_data {t : List Nd} (ht : Tree t) {p : List UInt8} {x : Nd} (h : atP t p = some x) (hk : x.kind = 1) : x.data = [] := by
  obtain ⟨h1, h2⟩ := atP_some h
  rcases h1 with rfl | h1
  · rfl
  · exact (node_right (ht.node x h1)).2.2.2.2 hk
/-- What isn't alike, and has one print: two texts have one sum. -/
theorem unlike_clash {a b : List Nd} (ta : Tree a) (tb : Tree b) : ∀ (d : Nat) (p q : List UInt8) (x y : Nd), 17 ≤ d + (names p).length → atP a p = some x → atP b q = some y → x.kind = y.kind → Mix.of (textP a p) = Mix.of (textP b q) → likeF a b d p q = false → Clash a b := by
  intro d
  induction d with
  | zero => intro p q x y h; have := names_len16 p; omega
  | succ d ih =>
    intro p q x y hd hx hy hk hs hl
    by_cases ht : textP a p = textP b q
    · by_cases hcl : Clash a b
      · exact hcl
      · exfalso
        have hlt : likeF a b (d + 1) p q = true := by
          by_cases hk1 : x.kind = 1
          · have hy1 : y.kind = 1 := hk ▸ hk1
            rw [atP_text ta.uniq hx, atP_text tb.uniq hy, if_pos hk1, if_pos hy1] at ht
            have hkb : ∀ (t : List Nd), Tree t → ∀ n ∈ t, 1 ≤ n.kind ∧ n.kind ≤ 3 := fun t tt n hn => ⟨(node_right (tt.node n hn)).2.2.1, (node_right (tt.node n hn)).2.2.2.1⟩
            obtain ⟨e1, e2⟩ := entries_inj (a := a) (b := b) (kids a p) (kids b q) (fun n hn => hkb a ta n (kids_mem hn)) (fun n hn => hkb b tb n (kids_mem hn)) ht
            have hxp := (atP_some hx).2
            have hyp := (atP_some hy).2
            refine like_mk hx hy hk (by rw [atP_data ta hx hk1, atP_data tb hy hy1]) (by rw [below_kids hk1, below_kids hy1, hxp, hyp, List.length_map, List.length_map]; exact e1) fun i i1 i2 => ?_
            simp only [below_kids hk1, below_kids hy1, hxp, hyp, List.length_map] at i1 i2
            simp only [below_kids hk1, below_kids hy1, hxp, hyp, List.getElem_map]
            obtain ⟨f1, f2, f3⟩ := e2 i i1 i2
            refine ⟨f1, ?_⟩
            have hka := kids_mem (List.getElem_mem i1)
            have hkb' := kids_mem (List.getElem_mem i2)
            have hdp := kids_depth (List.getElem_mem i1)
            cases hli : likeF a b d (kids a p)[i].p (kids b q)[i].p with
            | true => rfl
            | false => exact absurd (ih _ _ _ _ (by omega) (atP_mem ta.uniq hka) (atP_mem tb.uniq hkb') f2 f3 hli) hcl
          · have hy1 : ¬ y.kind = 1 := by rw [← hk]; exact hk1
            rw [atP_text ta.uniq hx, atP_text tb.uniq hy, if_neg hk1, if_neg hy1] at ht
            have b1 : belowP a x = [] := if_neg hk1
            have b2 : belowP b y = [] := if_neg hy1
            refine like_mk hx hy hk ht (by rw [b1, b2]) fun i i1 => ?_
            rw [b1] at i1
            exact absurd i1 (by simp)
        rw [hlt] at hl
        cases hl
    · exact ⟨_, mem_clash1 hx, _, mem_clash2 hy, ht, hs⟩
end Tr
end Go.Proofs.Yteadcblmomngpaa
namespace Go.Proofs.Yteadcblmomngpaa
open Go Go.RowKit Go.Shelf W Pth
namespace Tr
theorem run_neq_nd (n m : Nd) (x y : Operand) (w : World) : (do eqGuard .neq 34 x y (nV n) (nV m); binOp .neq 34 (nV n) (nV m) : Sem Value).run Try.prog w = .ok (.bool (!decide (n = m))) w := by
  obtain ⟨p, k, a, b, d⟩ := n
  obtain ⟨p', k', a', b', d'⟩ := m
  by_cases h1 : p = p'
  · by_cases h2 : k = k'
    · by_cases h3 : a = a'
      · by_cases h4 : b = b'
        · by_cases h5 : d = d'
          · subst h1 h2 h3 h4 h5; simp [go_sem]
          · simp [go_sem, h1, h2, h3, h4, h5]
        · simp [go_sem, h1, h2, h3, h4]
      · simp [go_sem, h1, h2, h3]
    · simp [go_sem, h1, h2]
  · simp [go_sem, h1]
set_option maxRecDepth 100000 in
set_option maxHeartbeats 4000000 in
theorem refSame_any (A B : Option Addr) (ca cb : Nat) (a b : List Nd) (w : World) (ha : NR w w.heap.size A a) (hb : NR w w.heap.size B b) (hl : a.length ≤ 100000) (hl2 : b.length ≤ 100000) :
    Calls Try.prog 25 #[.slice A a.length ca, .slice B b.length cb] w fun e w' => e = .returned (.bool (decide (a = b))) ∧ Gr w w' := by
  obtain ⟨r, hr⟩ : ∃ r, decide (a = b) = r := ⟨_, rfl⟩
  rw [hr]
  replace hr := Lib.hid hr
  replace ha := Lib.hid ha
  replace hb := Lib.hid hb
  have G0 := Lib.hid (Gr.refl w)
  go_enter Try.func25, Try.ntmps25
  by_cases hlen : a.length = b.length
  · have hln : ((a.length : Int) != (a.length : Int)) = false := by simp
    rw [← hlen]
    have hlh := Lib.hid hlen
    clear hlen
    go_wp2
    go_loopw [5] (fun v5 wr => ∃ k : Nat, k ≤ a.length ∧ v5 = .int .i64 (k : Int) ∧ Hid (a.take k = b.take k ∧ Gr w wr)) (fun v5 _ => a.length - (intOf v5).toNat)
    case atStart => exact ⟨0, by omega, rfl, Lib.hid ⟨rfl, G0.out⟩⟩
    case round =>
      obtain ⟨k, hk, rfl, hst⟩ := hrel
      obtain ⟨hq, gz⟩ := hst.out
      clear hst
      by_cases hkl : k < a.length
      · have ij : (k : Int) < (a.length : Int) := by omega
        have hkb : k < b.length := by have := hlh.out; omega
        have kw : IntKind.i64.wrap ((k : Int) + 1) = (k : Int) + 1 := IntWalk.i64_in _ (by omega)
        obtain ⟨ad, rfl, hlt, e0, e1, e2, e3, e4⟩ := NR.at_ (ha.out.below gz) hkl
        obtain ⟨ad2, rfl, hlt2, f0, f1, f2, f3, f4⟩ := NR.at_ (hb.out.below gz) hkb
        have hnx : a[k] = b[k] → a.take (k + 1) = b.take (k + 1) := fun h => by rw [List.take_succ_eq_append_getElem hkl, List.take_succ_eq_append_getElem hkb, hq, h]
        have hbd : a[k] ≠ b[k] → r = false := fun h => by
          rw [← hr.out]
          exact decide_eq_false fun e => h (by simp only [e])
        have sz := Below.size gz
        obtain ⟨u, hu⟩ : ∃ u, a[k] = u := ⟨_, rfl⟩
        obtain ⟨v, hv⟩ : ∃ v, b[k] = v := ⟨_, rfl⟩
        rw [hu] at e0 e1 e2 e3 e4 hnx hbd
        rw [hv] at f0 f1 f2 f3 f4 hnx hbd
        have l1 : (ad.add (k * 5)).block < wr.heap.size := by rw [block_of_add]; omega
        have l2 : (ad2.add (k * 5)).block < wr.heap.size := by rw [block_of_add]; omega
        have hkl2 : k < a.length := hkl
        replace gz := Lib.hid gz
        clear hu hv hlt hlt2 hq
        by_cases huv : u = v
        · have hN := Lib.hid (hnx huv)
          have hde : (!decide (u = v)) = false := by simp [huv]
          clear hnx hbd huv
          go_wp2
          refine region_grow rfl (by kernel_rfl) ?_
          refine GW.mv rfl trivial (.inl rfl) (kn0 (t := 0) (c := .slice (some ad) a.length ca) (by kernel_rfl) rfl) (eqv_lasts _) ?_
          refine GW.mv rfl trivial (.inl rfl) (kn0 (t := 5) (c := .int .i64 (k : Int)) (by kernel_rfl) rfl) (eqv_lasts _) ?_
          refine GW.p2 (.pointer (some (ad.add (k * 5)))) rfl trivial (kn (t := 17) (j := 0) (by kernel_rfl)) (kn (t := 18) (j := 1) (by kernel_rfl)) (fun ρ w' h1 h2 hg => by show ((Instr.indexAt 22 (ρ (.tmp 17)) (ρ (.tmp 18)) >>= fun v => pure (Next.value v)) : Sem Next).run Try.prog w' = _; rw [h1, h2, Sem.run_bind, run_idxR w' Try.underlying22 (size := 5) (by kernel_rfl) ad _ _ k hkl]; simp) ?_
          refine GW.p1 (.agg #[str u.p, .int .i64 u.kind, .int .i64 u.mode, .int .i64 u.time, str u.data]) rfl trivial (kn (t := 19) (j := 2) (by kernel_rfl)) (fun ρ w' hρ hg => by simp [execOp, hρ, go_sem, (hg.cell (p := (ad.add (k * 5))) l1).trans e0, (hg.cell (p := ⟨(ad.add (k * 5)).block, (ad.add (k * 5)).off + 1, none⟩) l1).trans e1, (hg.cell (p := ⟨(ad.add (k * 5)).block, (ad.add (k * 5)).off + 2, none⟩) l1).trans e2, (hg.cell (p := ⟨(ad.add (k * 5)).block, (ad.add (k * 5)).off + 3, none⟩) l1).trans e3, (hg.cell (p := ⟨(ad.add (k * 5)).block, (ad.add (k * 5)).off + 4, none⟩) l1).trans e4]) ?_
          refine GW.mv rfl trivial (.inl rfl) (kn0 (t := 1) (c := .slice (some ad2) a.length cb) (by kernel_rfl) rfl) (eqv_lasts _) ?_
          refine GW.mv rfl trivial (.inl rfl) (kn0 (t := 5) (c := .int .i64 (k : Int)) (by kernel_rfl) rfl) (eqv_lasts _) ?_
          refine GW.p2 (.pointer (some (ad2.add (k * 5)))) rfl trivial (kn (t := 21) (j := 4) (by kernel_rfl)) (kn (t := 22) (j := 5) (by kernel_rfl)) (fun ρ w' h1 h2 hg => by show ((Instr.indexAt 22 (ρ (.tmp 21)) (ρ (.tmp 22)) >>= fun v => pure (Next.value v)) : Sem Next).run Try.prog w' = _; rw [h1, h2, Sem.run_bind, run_idxR w' Try.underlying22 (size := 5) (by kernel_rfl) ad2 _ _ k hkl2]; simp) ?_
          refine GW.p1 (.agg #[str v.p, .int .i64 v.kind, .int .i64 v.mode, .int .i64 v.time, str v.data]) rfl trivial (kn (t := 23) (j := 6) (by kernel_rfl)) (fun ρ w' hρ hg => by simp [execOp, hρ, go_sem, (hg.cell (p := (ad2.add (k * 5))) l2).trans f0, (hg.cell (p := ⟨(ad2.add (k * 5)).block, (ad2.add (k * 5)).off + 1, none⟩) l2).trans f1, (hg.cell (p := ⟨(ad2.add (k * 5)).block, (ad2.add (k * 5)).off + 2, none⟩) l2).trans f2, (hg.cell (p := ⟨(ad2.add (k * 5)).block, (ad2.add (k * 5)).off + 3, none⟩) l2).trans f3, (hg.cell (p := ⟨(ad2.add (k * 5)).block, (ad2.add (k * 5)).off + 4, none⟩) l2).trans f4]) ?_
          refine GW.bin (.bool false) rfl trivial rfl (kn (t := 20) (j := 3) (by kernel_rfl)) (kn (t := 24) (j := 7) (by kernel_rfl)) (fun w' => (run_neq_nd u v _ _ w').trans (by rw [hde])) ?_
          refine GW.done (by simp) (by kernel_rfl) (fun w' hg => ?_)
          rintro v0 - v1 - v2 - v3 - v4 - v5 - v6 - v7 - v8 h8
          obtain rfl : v8 = (.bool false) := h8
          simp only [GFin, Act.put, List.setIfInBounds_toArray, List.set_cons_succ, List.set_cons_zero]
          have g9 := Lib.hid (Gr.trans gz.out hg)
          clear hg gz e0 e1 e2 e3 e4 f0 f1 f2 f3 f4 l1 l2
          go_wp2
          exact ⟨⟨k + 1, by omega, by go_num, Lib.hid ⟨hN.out, g9.out⟩⟩, by simp [intOf]; omega⟩
        · obtain rfl := hbd huv
          have hde : (!decide (u = v)) = true := by simp [huv]
          clear hnx hbd huv
          go_wp2
          refine region_grow rfl (by kernel_rfl) ?_
          refine GW.mv rfl trivial (.inl rfl) (kn0 (t := 0) (c := .slice (some ad) a.length ca) (by kernel_rfl) rfl) (eqv_lasts _) ?_
          refine GW.mv rfl trivial (.inl rfl) (kn0 (t := 5) (c := .int .i64 (k : Int)) (by kernel_rfl) rfl) (eqv_lasts _) ?_
          refine GW.p2 (.pointer (some (ad.add (k * 5)))) rfl trivial (kn (t := 17) (j := 0) (by kernel_rfl)) (kn (t := 18) (j := 1) (by kernel_rfl)) (fun ρ w' h1 h2 hg => by show ((Instr.indexAt 22 (ρ (.tmp 17)) (ρ (.tmp 18)) >>= fun v => pure (Next.value v)) : Sem Next).run Try.prog w' = _; rw [h1, h2, Sem.run_bind, run_idxR w' Try.underlying22 (size := 5) (by kernel_rfl) ad _ _ k hkl]; simp) ?_
          refine GW.p1 (.agg #[str u.p, .int .i64 u.kind, .int .i64 u.mode, .int .i64 u.time, str u.data]) rfl trivial (kn (t := 19) (j := 2) (by kernel_rfl)) (fun ρ w' hρ hg => by simp [execOp, hρ, go_sem, (hg.cell (p := (ad.add (k * 5))) l1).trans e0, (hg.cell (p := ⟨(ad.add (k * 5)).block, (ad.add (k * 5)).off + 1, none⟩) l1).trans e1, (hg.cell (p := ⟨(ad.add (k * 5)).block, (ad.add (k * 5)).off + 2, none⟩) l1).trans e2, (hg.cell (p := ⟨(ad.add (k * 5)).block, (ad.add (k * 5)).off + 3, none⟩) l1).trans e3, (hg.cell (p := ⟨(ad.add (k * 5)).block, (ad.add (k * 5)).off + 4, none⟩) l1).trans e4]) ?_
          refine GW.mv rfl trivial (.inl rfl) (kn0 (t := 1) (c := .slice (some ad2) a.length cb) (by kernel_rfl) rfl) (eqv_lasts _) ?_
          refine GW.mv rfl trivial (.inl rfl) (kn0 (t := 5) (c := .int .i64 (k : Int)) (by kernel_rfl) rfl) (eqv_lasts _) ?_
          refine GW.p2 (.pointer (some (ad2.add (k * 5)))) rfl trivial (kn (t := 21) (j := 4) (by kernel_rfl)) (kn (t := 22) (j := 5) (by kernel_rfl)) (fun ρ w' h1 h2 hg => by show ((Instr.indexAt 22 (ρ (.tmp 21)) (ρ (.tmp 22)) >>= fun v => pure (Next.value v)) : Sem Next).run Try.prog w' = _; rw [h1, h2, Sem.run_bind, run_idxR w' Try.underlying22 (size := 5) (by kernel_rfl) ad2 _ _ k hkl2]; simp) ?_
          refine GW.p1 (.agg #[str v.p, .int .i64 v.kind, .int .i64 v.mode, .int .i64 v.time, str v.data]) rfl trivial (kn (t := 23) (j := 6) (by kernel_rfl)) (fun ρ w' hρ hg => by simp [execOp, hρ, go_sem, (hg.cell (p := (ad2.add (k * 5))) l2).trans f0, (hg.cell (p := ⟨(ad2.add (k * 5)).block, (ad2.add (k * 5)).off + 1, none⟩) l2).trans f1, (hg.cell (p := ⟨(ad2.add (k * 5)).block, (ad2.add (k * 5)).off + 2, none⟩) l2).trans f2, (hg.cell (p := ⟨(ad2.add (k * 5)).block, (ad2.add (k * 5)).off + 3, none⟩) l2).trans f3, (hg.cell (p := ⟨(ad2.add (k * 5)).block, (ad2.add (k * 5)).off + 4, none⟩) l2).trans f4]) ?_
          refine GW.bin (.bool true) rfl trivial rfl (kn (t := 20) (j := 3) (by kernel_rfl)) (kn (t := 24) (j := 7) (by kernel_rfl)) (fun w' => (run_neq_nd u v _ _ w').trans (by rw [hde])) ?_
          refine GW.done (by simp) (by kernel_rfl) (fun w' hg => ?_)
          rintro v0 - v1 - v2 - v3 - v4 - v5 - v6 - v7 - v8 h8
          obtain rfl : v8 = (.bool true) := h8
          simp only [GFin, Act.put, List.setIfInBounds_toArray, List.set_cons_succ, List.set_cons_zero]
          have g9 := Lib.hid (Gr.trans gz.out hg)
          clear hg gz e0 e1 e2 e3 e4 f0 f1 f2 f3 f4 l1 l2
          go_wp2
          go_ret
          exact ⟨rfl, g9.out⟩
      · obtain rfl : k = a.length := by omega
        have hab : a = b := by
          have h1 := hlh.out
          rw [List.take_length, h1, List.take_length] at hq
          exact hq
        obtain rfl : r = true := by rw [← hr.out]; exact decide_eq_true hab
        replace gz := Lib.hid gz
        clear hr hq hab
        go_wp2
        go_ret
        exact ⟨rfl, gz.out⟩
  · have hln : ((a.length : Int) != (b.length : Int)) = true := by
      have : (a.length : Int) ≠ (b.length : Int) := fun e => hlen (by omega)
      simpa using this
    obtain rfl : r = false := by rw [← hr.out]; exact decide_eq_false fun e => hlen (by rw [e])
    clear hr hlen
    go_wp2
    go_ret
    exact ⟨rfl, G0.out⟩
/-! ### Moved -/
def mvN (p : List UInt8) (n : Nd) : Option Nd := match rebase n.p p [] with
  | some (c :: q) => some ⟨c :: q, n.kind, 0, 0, n.data⟩
  | _ => none
theorem movedP_take (t : List Nd) (p : List UInt8) {k : Nat} (h : k < t.length) : movedP (t.take (k + 1)) p = movedP (t.take k) p ++ (match mvN p t[k] with | some n => [n] | none => []) := by
  unfold movedP
  rw [List.take_succ_eq_append_getElem h, List.filterMap_append]
  congr 1
  show List.filterMap (mvN p) [t[k]] = _
  rw [List.filterMap_cons, List.filterMap_nil]
  cases mvN p t[k] <;> rfl
theorem movedP_len (t : List Nd) (p : List UInt8) : (movedP t p).length ≤ t.length := List.length_filterMap_le _ _
set_option maxRecDepth 100000 in
set_option maxHeartbeats 8000000 in
theorem refMoved_any (A : Option Addr) (c : Nat) (l : List Nd) (p : List UInt8) (w : World) (h : NR w w.heap.size A l) (hf : Fit l) (hp : p.length ≤ 90000) :
    Calls Try.prog 26 #[.slice A l.length c, str p] w (OutN w (movedP l p)) := by
  obtain ⟨L, hL⟩ : ∃ L, movedP l p = L := ⟨_, rfl⟩
  rw [hL]
  replace hL := Lib.hid hL
  replace h := Lib.hid h
  have hl1 := hf.1
  replace hf := Lib.hid hf
  go_enter Try.func26, Try.ntmps26
  go_wp2
  go_loopw [5, 6, 7, 8, 9] (fun v5 v6 _ _ _ wr => ∃ k : Nat, k ≤ l.length ∧ v6 = .int .i64 (k : Int) ∧ Hid (SN w.heap.size wr v5 (movedP (l.take k) p) ∧ NR wr w.heap.size A l ∧ Gr w wr)) (fun _ v6 _ _ _ _ => l.length - (intOf v6).toNat)
  case atStart => exact ⟨0, by omega, rfl, Lib.hid ⟨⟨none, 0, rfl, ON.nil_ _ _⟩, h.out, Gr.refl w⟩⟩
  case round =>
    clear h
    obtain ⟨k, hk, rfl, hst⟩ := hrel
    obtain ⟨⟨A0, c0, rfl, ho⟩, h, gg⟩ := hst.out
    clear hst
    by_cases hkl : k < l.length
    · have ij : (k : Int) < (l.length : Int) := by omega
      have kw : IntKind.i64.wrap ((k : Int) + 1) = (k : Int) + 1 := IntWalk.i64_in _ (by omega)
      obtain ⟨ad, rfl, hlt, e0, e1, e2, e3, e4⟩ := h.at_ hkl
      have hxk := hf.out.2 _ (List.getElem_mem hkl)
      have hs := movedP_take l p hkl
      have hkn : (movedP (l.take k) p).length ≤ 1000 := Nat.le_trans (movedP_len _ _) (by rw [List.length_take]; omega)
      obtain ⟨x, hx⟩ : ∃ x, l[k] = x := ⟨_, rfl⟩
      rw [hx] at e0 e1 e2 e3 e4 hxk hs
      obtain ⟨S, hS⟩ : ∃ S, movedP (l.take k) p = S := ⟨_, rfl⟩
      rw [hS] at ho hs hkn ⊢
      have hsz := Below.size gg
      have hrb := Lib.hid (refRebase_any x.p p [] wr (by omega) (by omega) (by simp))
      have lad : (ad.add (k * 5)).block < wr.heap.size := by rw [block_of_add]; omega
      replace ho := Lib.hid ho
      replace h := Lib.hid h
      replace gg := Lib.hid gg
      replace hs := Lib.hid hs
      clear hx hS hlt
      go_wp2_with fail
      go_at_call 33
      refine hrb.out.mono ?_
      rintro e w1 ⟨rfl, g1⟩
      have e0' := (g1.cell (p := ad.add (k * 5)) lad).trans e0
      have e1' := (g1.cell (p := ⟨(ad.add (k * 5)).block, (ad.add (k * 5)).off + 1, none⟩) lad).trans e1
      have e2' := (g1.cell (p := ⟨(ad.add (k * 5)).block, (ad.add (k * 5)).off + 2, none⟩) lad).trans e2
      have e3' := (g1.cell (p := ⟨(ad.add (k * 5)).block, (ad.add (k * 5)).off + 3, none⟩) lad).trans e3
      have e4' := (g1.cell (p := ⟨(ad.add (k * 5)).block, (ad.add (k * 5)).off + 4, none⟩) lad).trans e4
      have o1 := Lib.hid (show ON w1 w.heap.size (.slice A0 S.length c0) S from ON.below ho.out g1)
      have h1 := Lib.hid (h.out.below (g1.mono hsz))
      have gg1 := Lib.hid (Gr.trans gg.out g1)
      have hs1 : w.heap.size ≤ w1.heap.size := gg1.out.size
      clear g1 hrb e0 e1 e2 e3 e4 lad ho h gg
      have skip : mvN p x = none → movedP (l.take (k + 1)) p = S := fun e => by rw [hs.out, e, List.append_nil]
      cases er : rebase x.p p [] with
      | none =>
        have hsk := Lib.hid (skip (by unfold mvN; rw [er]))
        have hpv : parentV none = .tuple #[.string ⟨#[]⟩, .bool false] := rfl
        rw [hpv]
        clear er skip hs hpv e0' e1' e2' e3' e4'
        go_wp2
        exact ⟨⟨k + 1, by omega, by go_num, Lib.hid ⟨⟨A0, c0, by rw [hsk.out], by rw [hsk.out]; exact o1.out⟩, h1.out, gg1.out⟩⟩, by simp [intOf]; omega⟩
      | some q =>
        have hpv : parentV (some q) = .tuple #[str q, .bool true] := rfl
        rw [hpv]
        cases q with
        | nil =>
          have hsk := Lib.hid (skip (by unfold mvN; rw [er]))
          clear er skip hs hpv e0' e1' e2' e3' e4'
          go_wp2
          exact ⟨⟨k + 1, by omega, by go_num, Lib.hid ⟨⟨A0, c0, by rw [hsk.out], by rw [hsk.out]; exact o1.out⟩, h1.out, gg1.out⟩⟩, by simp [intOf]; omega⟩
        | cons ch q' =>
          have hmn : mvN p x = some ⟨ch :: q', x.kind, 0, 0, x.data⟩ := by unfold mvN; rw [er]
          obtain ⟨q, hq⟩ : ∃ q, ch :: q' = q := ⟨_, rfl⟩
          rw [hq] at hmn ⊢
          have hqe : q.isEmpty = false := by rw [← hq]; rfl
          have hs2 : movedP (l.take (k + 1)) p = S ++ [⟨q, x.kind, 0, 0, x.data⟩] := by rw [hs.out, hmn]
          obtain ⟨y, hy⟩ : ∃ y : Nd, y = ⟨q, x.kind, 0, 0, x.data⟩ := ⟨_, rfl⟩
          rw [← hy] at hs2
          have bn := Lib.hid (Blk.new w1 34 (ndA noNd))
          replace hs2 := Lib.hid hs2
          replace hy := Lib.hid hy
          clear er skip hs hpv hq hmn
          go_wp2_with (first
            | ((with_reducible refine wpList_isStore 34 (.tmp 9) (.tmp 34) rfl ?_); refine wpList_store_blk rfl 34 (.tmp 9) (.tmp 34) rfl w1.heap.size (ndA x) rfl rfl 34 (ndA noNd) bn.out (nodeInfo _ _ _ _ _) rfl (by simp [Value.oneCell']) ?_; intro w2 n2 k2 z2; have x0 := n2.cell 0; have f0 := n2.frozen 0; have m1 := n2.set_ 0 (str q); have x2 := m1.cell 2; have f2 := m1.frozen 2; have m2 := m1.set_ 2 (.int .i64 0); have x3 := m2.cell 3; have f3 := m2.frozen 3; have m3 := m2.set_ 3 (.int .i64 0); have y0 := m3.cell 0; have y1 := m3.cell 1; have y2 := m3.cell 2; have y3 := m3.cell 3; have y4 := m3.cell 4; have G3 := Kb.new (((k2.set 0 (str q)).set 2 (.int .i64 0)).set 3 (.int .i64 0)); have o3 : ON (((w2.setCell ⟨w1.heap.size, 0, none⟩ (str q)).setCell ⟨w1.heap.size, 2, none⟩ (.int .i64 0)).setCell ⟨w1.heap.size, 3, none⟩ (.int .i64 0)) w.heap.size (.slice A0 S.length c0) S := ON.below o1.out G3; have gX := (Gr.refl (((w2.setCell ⟨w1.heap.size, 0, none⟩ (str q)).setCell ⟨w1.heap.size, 2, none⟩ (.int .i64 0)).setCell ⟨w1.heap.size, 3, none⟩ (.int .i64 0))).alloc (.cells (ndC ⟨q, x.kind, 0, 0, x.data⟩) 34); have o4 := Lib.hid (ON.alloc o3 (.cells (ndC ⟨q, x.kind, 0, 0, x.data⟩) 34)); have n4 := NR.new1 (((w2.setCell ⟨w1.heap.size, 0, none⟩ (str q)).setCell ⟨w1.heap.size, 2, none⟩ (.int .i64 0)).setCell ⟨w1.heap.size, 3, none⟩ (.int .i64 0)) 34 ⟨q, x.kind, 0, 0, x.data⟩; simp only [World.size_setCell] at n4; have n5 := Lib.hid n4; have h4 := Lib.hid ((h1.out.below (G3.mono hs1)).below (gX.mono (Nat.le_trans hs1 G3.size))); have gg4 := Lib.hid (Gr.trans gg1.out (Gr.trans G3 gX)); have sz2 := Lib.hid (show w.heap.size ≤ w2.heap.size from Nat.le_trans hs1 (by have := G3.size; simp only [World.size_setCell] at this; exact this)); clear n2 m1 m2 m3 k2 z2 bn e0' e1' e2' e3' e4' G3 o3 gX n4 o1 h1 gg1)
            | ((with_reducible refine wpList_isApp (.tmp 39) (.tmp 41) 22 rfl ?_); refine wpList_append_rowsN (base := w.heap.size) (v := .slice A0 S.length c0) rfl (.tmp 39) (.tmp 41) 22 rfl Try.underlying22 nodeRow rfl (by exact o4.out) (w2.heap.size + 1) (some ⟨w2.heap.size, 0, none⟩) 1 1 (ncs [⟨q, x.kind, 0, 0, x.data⟩]) rfl (by exact n5.out) (ncs_one_cell _) (by unfold maxLen; omega) (by omega) (by have := sz2.out; rw [World.size_alloc]; simp only [World.size_setCell]; omega) (ncs (S ++ [⟨q, x.kind, 0, 0, x.data⟩])) (ncs_append _ _) (S.length + 1) rfl ?_; intro A9 c9 w9 o9 b9; have h9 := Lib.hid (h4.out.below b9); have g9 := Lib.hid (Below.trans gg4.out b9); replace o9 := Lib.hid o9; clear o4 n5 b9 h4 gg4 x0 f0 x2 f2 x3 f3 y0 y1 y2 y3 y4))
          have hs3 : movedP (l.take (k + 1)) p = S ++ [⟨q, x.kind, 0, 0, x.data⟩] := by rw [hs2.out, hy.out]
          have hlen : (movedP (l.take (k + 1)) p).length = S.length + 1 := by rw [hs3, List.length_append]; rfl
          refine ⟨⟨k + 1, by omega, by go_num, Lib.hid ⟨⟨A9, c9, by rw [hlen], ?_⟩, h9.out, g9.out⟩⟩, by simp [intOf]; omega⟩
          unfold ON
          rw [hlen, hs3]
          exact o9.out
    · obtain rfl : k = l.length := by omega
      rw [List.take_length, hL.out] at ho
      rw [List.take_length, hL.out]
      replace ho := Lib.hid (show _ ∧ _ from ⟨ho, gg⟩)
      clear h gg hL hf
      go_wp2
      go_ret
      exact ⟨A0, c0, rfl, ho.out.1, ho.out.2⟩
end Tr
end Go.Proofs.Yteadcblmomngpaa
