/- block.Of: the signature of bytes. No condition but sizes. -/
import Derived.Test.YtcibngbgcnnjnaaSigIt
import Derived.Test.YtcibngbgcnnjnaaSigKit
import Derived.Test.YtcibngbgcnnjnaaBlkAt
set_option linter.unusedVariables false
set_option linter.unusedSimpArgs false
namespace Go.Proofs.Ytcibngbgcnnjnaa
open Go Go.RowKit Go.Shelf W Bl
attribute [local go_sem] Oper.semAt_some
namespace Sg
abbrev sigZ : Array Value := #[.int .i64 0, .slice none 0 0, .int .i64 0, .int .u32 0, .int .u64 0, .int .u64 0]
/-- The signature in block g. -/
def SgAt (g base : Nat) (z : Int) (bs : List Sign) (t : Int) (x : Sign) (W : World) : Prop :=
  ∃ A c, Blk W g 35 (sigC z (.slice A bs.length c) t x) ∧ OS 33 W base (.slice A bs.length c) bs
def SgI (rc g : Nat) (w : World) (base : Nat) (l : List UInt8) (h : Nat) (pre : List Nat) (W : World) : Prop :=
  (∀ y ∈ pre, (at_ l h y).length = h) ∧ Blk W rc 35 sigZ ∧ SgAt g base (h : Int) (pre.map fun k => sign (at_ l h k)) 0 zero W ∧ Below w.heap.size w W ∧ base ≤ W.heap.size
def SgX (rc g : Nat) (w : World) (base : Nat) (l : List UInt8) (h : Nat) (c : Code) (pre : List Nat) (W : World) : Prop :=
  c = .exit 0 ∧ ∃ ini last, pre = ini ++ [last] ∧ (∀ y ∈ ini, (at_ l h y).length = h) ∧ (at_ l h last).length < h ∧ Blk W rc 35 sigZ ∧
    SgAt g base (h : Int) (ini.map fun k => sign (at_ l h k)) ((at_ l h last).length : Int) (sign (at_ l h last)) W ∧ Below w.heap.size w W ∧ base ≤ W.heap.size
theorem sgAt_own {g base : Nat} {z : Int} {bs : List Sign} {t : Int} {x : Sign} {X Y : World} {row : Option Nat} (h : SgAt g base z bs t x X) (hg : X.grownBy Y row) (hr : ∀ r, row = some r → ∃ o : Obj, X.heap[r]? = some o ∧ o.isCells = false) : SgAt g base z bs t x Y := by
  obtain ⟨A, c, h1, h2⟩ := h
  refine ⟨A, c, h1.grown hg (fun e => ?_), or_own h2 hg hr⟩
  obtain ⟨o, ho, hc⟩ := hr g e.symm
  have h1' : X.heap[g]? = some (.cells _ _ (0, 0)) := h1
  rw [h1'] at ho
  cases ho
  cases hc
theorem sgAt_kb {g base b : Nat} {z : Int} {bs : List Sign} {t : Int} {x : Sign} {X Y : World} (h : SgAt g base z bs t x X) (hk : Kb b X Y) (h1 : b ≠ g) (h2 : b < base) : SgAt g base z bs t x Y := by
  obtain ⟨A, c, e1, e2⟩ := h
  refine ⟨A, c, hk.blk e1 (fun e => h1 e.symm), World.ownsRow.kept e2 hk ?_⟩
  rcases e2.2 with ⟨hv, _⟩ | ⟨g', cap, cur, hv, hg, hh, _⟩
  · exact .inl (by rw [hv]; rfl)
  · refine .inr fun e => ?_
    rw [hv] at e
    have : g' = b := Option.some.inj e
    omega
theorem at_len_min (l : List UInt8) (h k : Nat) : (at_ l h k).length = min h (l.length - k * h) := by simp [at_]
theorem rb_at {W : World} {B : Nat} {A : Option Addr} {l : List UInt8} {c h k : Nat} (hr : RB W B A l) (hc : l.length ≤ c) : RB W B (A.map (·.add (k * h))) (at_ l h k) := by
  unfold at_
  rcases Nat.lt_or_ge (k * h) l.length with hk | hk
  · have := hr.drop (k := k * h) (cap := c) (by omega) hc
    rw [if_neg (by omega)] at this
    by_cases hm : h ≤ l.length - k * h
    · exact this.take (by rw [List.length_drop]; omega)
    · rw [List.take_of_length_le (by rw [List.length_drop]; omega)]
      exact this
  · rw [List.drop_eq_nil_of_le hk, List.take_nil]
    exact RB.nil_
theorem full_of {l : List UInt8} {h : Nat} (hh : 0 < h) (hall : ∀ y ∈ List.range (count l.length h), (at_ l h y).length = h) : count l.length h = l.length / h ∧ l.length % h = 0 := by
  by_cases hm : 0 < l.length % h
  · have h1 : l.length / h < count l.length h := by unfold count; rw [if_pos hm]; omega
    have h2 := hall _ (List.mem_range.2 h1)
    rw [at_len_min] at h2
    have h3 := Nat.div_add_mod l.length h
    rw [Nat.mul_comm] at h3
    have h4 := Nat.mod_lt l.length hh
    omega
  · refine ⟨by unfold count; rw [if_neg hm]; rfl, by omega⟩
theorem last_of {l : List UInt8} {h j : Nat} (hh : 0 < h) (hj : j ≤ count l.length h) {ini : List Nat} {last : Nat} (he : ini ++ [last] = List.range j) (hall : ∀ y ∈ ini, (at_ l h y).length = h) (hlt : (at_ l h last).length < h) :
    ini = List.range (l.length / h) ∧ last = l.length / h ∧ 0 < l.length % h := by
  cases j with
  | zero => simp at he
  | succ j =>
    rw [List.range_succ] at he
    obtain ⟨rfl, h2⟩ := List.append_inj' he rfl
    obtain rfl : last = j := by simpa using h2
    have h3 := (count_lt (n := l.length) hh).1 (show last < count l.length h by omega)
    have h4 := Nat.div_add_mod l.length h
    rw [Nat.mul_comm] at h4
    have h5 := Nat.mod_lt l.length hh
    rw [at_len_min] at hlt
    have e : last = l.length / h := by
      rcases Nat.lt_trichotomy last (l.length / h) with h6 | h6 | h6
      · have h7 : (last + 1) * h ≤ l.length / h * h := Nat.mul_le_mul_right _ h6
        rw [Nat.succ_mul] at h7
        omega
      · exact h6
      · have h7 : (l.length / h + 1) * h ≤ last * h := Nat.mul_le_mul_right _ h6
        rw [Nat.succ_mul] at h7
        omega
    refine ⟨by rw [e], e, ?_⟩
    rw [← e] at h4
    omega
theorem at_last {l : List UInt8} {h : Nat} (hm : 0 < l.length % h) (hh : 0 < h) : (at_ l h (l.length / h)).length = l.length % h := by
  rw [at_len_min]
  have h4 := Nat.div_add_mod l.length h
  rw [Nat.mul_comm] at h4
  have h5 := Nat.mod_lt l.length hh
  omega
theorem sgI_own (rc g : Nat) (w : World) (base : Nat) (l : List UInt8) (h B : Nat) (hB : w.heap.size ≤ B) : OwnFrom B (SgI rc g w base l h) := fun s X Y row hs hg hr =>
  ⟨hs.1, blk_own (fun (_ : List Nat) => sigZ) B s X Y row hs.2.1 hg hr, sgAt_own hs.2.2.1 hg (fun r e => (hr r e).2), ownFrom_below (β := List Nat) (Nat.le_refl _) hB s X Y row hs.2.2.2.1 hg hr, Nat.le_trans hs.2.2.2.2 hg.size⟩
theorem sgX_own (rc g : Nat) (w : World) (base : Nat) (l : List UInt8) (h B : Nat) (hB : w.heap.size ≤ B) (c : Code) : OwnFrom B (SgX rc g w base l h c) := fun s X Y row hs hg hr => by
  obtain ⟨hc, ini, last, e1, e2, e3, e4, e5, e6, e7⟩ := hs
  exact ⟨hc, ini, last, e1, e2, e3, blk_own (fun (_ : List Nat) => sigZ) B s X Y row e4 hg hr, sgAt_own e5 hg (fun r e => (hr r e).2), ownFrom_below (β := List Nat) (Nat.le_refl _) hB s X Y row e6 hg hr, Nat.le_trans e7 hg.size⟩
theorem below_kb {w X Y : World} {b : Nat} (h : Below w.heap.size w X) (k : Kb b X Y) (hb : w.heap.size ≤ b) : Below w.heap.size w Y :=
  ⟨k.os.trans h.os, k.tape.trans h.tape, k.output.trans h.output, Nat.le_trans h.size k.size, fun i hi => (World.grownBy.block k i (Nat.lt_of_lt_of_le hi h.size) (fun e => by cases e; omega)).trans (h.block i hi)⟩
theorem sgI_bears (rc g : Nat) (w : World) (base : Nat) (l : List UInt8) (h b : Nat) (h1 : rc ≠ b) (h2 : g ≠ b) (h3 : b < base) (h4 : w.heap.size ≤ b) : Bears b (SgI rc g w base l h) := fun s X Y hs k =>
  ⟨hs.1, k.blk hs.2.1 h1, sgAt_kb hs.2.2.1 k (Ne.symm h2) h3, below_kb hs.2.2.2.1 k h4, Nat.le_trans hs.2.2.2.2 k.size⟩
theorem sgX_bears (rc g : Nat) (w : World) (base : Nat) (l : List UInt8) (h b : Nat) (h1 : rc ≠ b) (h2 : g ≠ b) (h3 : b < base) (h4 : w.heap.size ≤ b) (c : Code) : Bears b (SgX rc g w base l h c) := fun s X Y hs k => by
  obtain ⟨hc, ini, last, e1, e2, e3, e4, e5, e6, e7⟩ := hs
  exact ⟨hc, ini, last, e1, e2, e3, k.blk e4 h1, sgAt_kb e5 k (Ne.symm h2) h3, below_kb e6 k h4, Nat.le_trans e7 k.size⟩
/-- Blocks b and b + 1 lie as they lay. -/
def Two (b : Nat) (X Y : World) : Prop := Y.heap[b]? = X.heap[b]? ∧ Y.heap[b + 1]? = X.heap[b + 1]?
theorem Two.trans {b : Nat} {X Y Z : World} (h : Two b X Y) (k : Two b Y Z) : Two b X Z := ⟨k.1.trans h.1, k.2.trans h.2⟩
theorem Two.putObj {b : Nat} (X : World) (l : Nat) (o : Obj) (h : b + 2 ≤ l) : Two b X (X.putObj l o) := ⟨World.putObj_heap_other (by omega), World.putObj_heap_other (by omega)⟩
set_option maxRecDepth 100000 in
set_option maxHeartbeats 4000000 in
theorem of_any (A : Option Addr) (c : Nat) (l : List UInt8) (size : Int) (w : World) (hs : l.length ≤ 1000000) (hc : l.length ≤ c) (hcm : c ≤ maxLen) (hr : RB w w.heap.size A l) :
    Calls Try.prog 10 #[.slice A l.length c, .int .i64 size] w fun e w' => ∃ A' c', e = .returned (sigV (sigOf l size) A' c') ∧ OS 33 w' w.heap.size (.slice A' (sigOf l size).bs.length c') (sigOf l size).bs ∧ Gr w w' := by
  refine (callsIn_wide (n := 5)).1 ?_
  have hrh := Lib.hid hr
  have hho := Lib.hid (fun w => hold_any size w)
  obtain ⟨s, hsig⟩ : ∃ s, sigOf l size = s := ⟨_, rfl⟩
  rw [hsig]
  unfold sigOf at hsig
  have hh := hold_pos size
  generalize hold size = h at *
  replace hsig := Lib.hid hsig
  clear hr
  refine callsIn_of_wp_marks Try.func10 rfl trivial ?_ rfl
  simp only [Try.ntmps10, List.size_toArray, List.length_cons, List.length_nil, Nat.reduceAdd, Nat.reduceSub, Array.replicate_succ, Array.replicate_zero, List.push_toArray, List.append_toArray, List.nil_append, List.cons_append]
  refine wpIn_wide.2 ?_
  have b0 := Lib.hid ((Blk.new w 35 sigZ).alloc (.cells sigZ 35))
  have b1 := Blk.new (w.alloc (.cells sigZ 35)) 35 sigZ
  rw [World.size_alloc] at b1
  replace b1 := Lib.hid b1
  have g0 := Lib.hid (((Gr.refl w).alloc (.cells sigZ 35)).alloc (.cells sigZ 35))
  go_wp2_with fail
  go_at_call 27
  refine (hho.out _).mono ?_
  rintro e w1 ⟨rfl, rfl⟩
  clear hho
  go_wp2_with (first
    | ((with_reducible refine wpList_isStore 35 (.tmp 5) (.tmp 9) rfl ?_); refine wpList_store_blk rfl 35 (.tmp 5) (.tmp 9) rfl (w.heap.size + 1) (sigC (h : Int) (.slice none 0 0) 0 zero) rfl rfl 35 sigZ b1.out (sigInfo _ _ _ _ _ _) rfl (by simp [Value.oneCell']) ?_; intro w2 n2 k2 z2; have x2 := n2.cell 0; have m0 := Lib.hid (k2.blk b0.out (by omega)); have n2' := Lib.hid n2; have G2 := Lib.hid (keep_at g0.out k2 (by omega) (by rw [World.size_alloc, World.size_alloc]; omega)); have z2' : w2.heap.size = w.heap.size + 2 := (by rw [z2, World.size_alloc, World.size_alloc]); clear n2 k2 z2 b0 b1 g0))
  go_at_call 28
  refine (blocks_any A l.length c (h : Int) (w.heap.size + 2) _ z2').mono ?_
  rintro e w3 ⟨rfl, bb, bs, g3, z3⟩
  have hsz := g3.size
  have i0 := blk_more m0.out g3
  have i1 := blk_more n2'.out g3
  have gg := Gr.trans G2.out g3
  have hre := hrh.out.below gg
  clear m0 n2' G2 g3 x2 z2'
  replace i0 := Lib.hid i0
  replace i1 := Lib.hid i1
  replace bb := Lib.hid bb
  replace bs := Lib.hid bs
  replace gg := Lib.hid gg
  replace hre := Lib.hid hre
  go_wp2
  refine (wpIn_wide (n := 5)).1 ?_
  refine wpIn_rangeBox (b := w.heap.size + 2) (by omega) rfl (by omega) (gf := 48) (lb := #[.pointer (some ⟨w.heap.size + 2, 0, none⟩), .pointer (some ⟨w.heap.size + 2 + 1, 0, none⟩)]) rfl trivial (enters_of Try.func48 (by kernel_rfl) rfl)
    (Kp := Two (w.heap.size + 2)) (fun W hW => blocks_seq 4 (by omega) (w.heap.size + 2) (w.heap.size + 2 + 1) A c l w.heap.size h hs hc hcm hh.1 hh.2 (Two (w.heap.size + 2)) (fun k hb => k.1.trans hb) (fun k hb => k.2.trans hb) W (bb.out.below hW (by omega)) (bs.out.below hW (by omega)) (hre.out.below (hW.mono (by omega))) (by omega))
    Two.trans (fun W l o hl => Two.putObj W l o (by omega)) (fun _ => rfl)
    (SgI w.heap.size (w.heap.size + 1) w w3.heap.size l h) (SgX w.heap.size (w.heap.size + 1) w w3.heap.size l h)
    (sgI_own _ _ _ _ _ _ _ (by omega)) (sgX_own _ _ _ _ _ _ _ (by omega))
    (sgI_bears _ _ _ _ _ _ _ (by omega) (by omega) (by omega) (by omega)) (sgX_bears _ _ _ _ _ _ _ (by omega) (by omega) (by omega) (by omega))
    ⟨by simp, i0.out, ⟨none, 0, i1.out, OS.nil_ _ _ _⟩, gg.out, Nat.le_refl _⟩ ?a1 ?assign ?body ?done ?stop
  case assign =>
    intro lp x W K hK
    dsimp only [encB]
    gi_wp2
    exact hK
  case body =>
    rintro lp pre x W ⟨hp, c0, ⟨A1, c1', c1, ho⟩, hB, hWs⟩ hlt
    have hcl := count_le l.length h (by omega)
    clear bb bs i0 i1 gg
    have hlm := at_len_min l h x
    have hle : (at_ l h x).length ≤ h := by omega
    have hrx : RB W W.heap.size (A.map (·.add (x * h))) (at_ l h x) := (rb_at (k := x) (h := h) (hrh.out.below hB) hc).more hB.size
    have hcx : (at_ l h x).length ≤ c - x * h := by omega
    rw [← hlm]
    have hsg := Lib.hid (fun W (hr : RB W W.heap.size (A.map (·.add (x * h))) (at_ l h x)) => signOf_any (A.map (·.add (x * h))) (c - x * h) (at_ l h x) W (by omega) hcx hr)
    replace hrx := Lib.hid hrx
    replace hp := Lib.hid hp
    have d0 := c1.cell 0
    have d1 := c1.cell 1
    have hWb : w3.heap.size ≤ W.heap.size := hWs
    replace c0 := Lib.hid c0
    replace c1 := Lib.hid c1
    replace ho := Lib.hid ho
    replace hB := Lib.hid hB
    by_cases hq : (at_ l h x).length < h
    · have hqi : ((at_ l h x).length : Int) < (h : Int) := by omega
      have hqH := Lib.hid hq
      obtain ⟨b, hb⟩ : ∃ b, at_ l h x = b := ⟨_, rfl⟩
      rw [hb] at hsg hrx hqi hqH ⊢
      replace hb := Lib.hid hb
      clear hlm hle hcx hq
      gi_wp2_with fail
      refine ⟨trivial, ?_⟩
      gi_at_call 12
      refine (CallsIn.inRound lp (callsIn_wide.2 (hsg.out W hrx.out))).mono ?_
      rintro e W2 ⟨rfl, g2⟩
      have n1 := blk_more c1.out g2
      have y2 := n1.cell 2
      have y3 := n1.cell 3
      have y4 := n1.cell 4
      have y5 := n1.cell 5
      have f2 := n1.frozen 2
      have f3 := n1.frozen 3
      have f4 := n1.frozen 4
      have f5 := n1.frozen 5
      have m1 := Lib.hid n1
      have G2 := Lib.hid g2
      clear hsg d0 d1 n1 g2
      gi_wp2
      have k5 := (((((Kb.refl (w.heap.size + 1) W2).set 2 (.int .i64 (b.length : Int))).set 3 (.int .u32 (n32 (sign b).1))).set 4 (.int .u64 (n64 (sign b).2.1))).set 5 (.int .u64 (n64 (sign b).2.2)))
      have m5 := (((m1.out.set_ 2 (.int .i64 (b.length : Int))).set_ 3 (.int .u32 (n32 (sign b).1))).set_ 4 (.int .u64 (n64 (sign b).2.1))).set_ 5 (.int .u64 (n64 (sign b).2.2))
      refine ⟨(gr_from G2.out _).trans ((((KeepsOthers.setCell _ _ _).trans (KeepsOthers.setCell _ _ _)).trans ((KeepsOthers.setCell _ _ _).trans (KeepsOthers.setCell _ _ _))).from _), rfl, pre, x, rfl, hp.out, by rw [hb.out]; exact hqH.out, k5.blk (blk_more c0.out G2.out) (by omega), ?_, below_kb (Below.trans hB.out (Below.mono G2.out hB.out.size)) k5 (by omega), Nat.le_trans (Nat.le_trans hWb (Below.size G2.out)) k5.size⟩
      rw [hb.out]
      exact ⟨A1, c1', m5, os_kb (OS.below ho.out G2.out) k5 (by omega)⟩
    · have hqe : (at_ l h x).length = h := by omega
      have hqi : ¬ ((at_ l h x).length : Int) < (h : Int) := by omega
      have hqH := Lib.hid hqe
      obtain ⟨b, hb⟩ : ∃ b, at_ l h x = b := ⟨_, rfl⟩
      rw [hb] at hsg hrx hqi hqH ⊢
      replace hb := Lib.hid hb
      obtain ⟨n, hn⟩ : ∃ n, (pre.map fun k => sign (at_ l h k)).length = n := ⟨_, rfl⟩
      have hpl : n ≤ 1000000 := by rw [← hn, List.length_map]; omega
      rw [hn] at d1 c1 ho
      replace hn := Lib.hid hn
      clear hlm hle hcx hq hqe
      gi_wp2
      refine region_growIn (by kernel_rfl) (by kernel_rfl) (by kernel_rfl) (fun ⟨_, _, h⟩ => h) ?_
      refine GW.p1 (.pointer (some ⟨w.heap.size + 1, 1, none⟩)) rfl trivial (kn0 (t := 5) (c := .pointer (some ⟨w.heap.size + 1, 0, none⟩)) (by kernel_rfl) rfl) (fun ρ w' hρ hg => by simp [execOp, hρ, go_sem]) ?_
      refine GW.p1 ((Value.slice A1 n c1')) rfl trivial (kn (t := 26) (j := 0) (by kernel_rfl)) (fun ρ w' hρ hg => by have h0 := (hg.cell (p := ⟨w.heap.size + 1, 1, none⟩) (show w.heap.size + 1 < W.heap.size by omega)).trans d1; simp [execOp, hρ, go_sem, h0]) ?_
      refine GW.mv rfl trivial (.inl rfl) (kn0 (t := 6) (c := .slice (A.map (·.add (x * h))) b.length (c - x * h)) (by kernel_rfl) rfl) (eqv_lasts _) ?_
      refine GW.call1 (eqv (sV (sign b))) rfl trivial rfl Try.func12 (by kernel_rfl) (by kernel_rfl) (eqv_lasts _) (kn (t := 28) (j := 2) (by kernel_rfl)) (fun v w' hg hv => ?_) ?_
      · obtain rfl : v = _ := hv
        refine (hsg.out w' ((hrx.out.below hg).more hg.size)).mono ?_
        rintro e w2 ⟨rfl, hg2⟩
        exact ⟨_, rfl, rfl, hg2⟩
      refine GW.row1 (E := 33) #[.int .u32 (n32 (sign b).1), .int .u64 (n64 (sign b).2.1), .int .u64 (n64 (sign b).2.2)] rfl rfl trivial rfl (kn (t := 29) (j := 3) (by kernel_rfl)) (fun w => by kernel_rfl) ?_
      refine GW.tailT (m := 5) (by simp) (by kernel_rfl) (by kernel_rfl) (fun w' hg => ?_)
      intro v0 _ v1 h1 v2 _ v3 _ v4 h4
      obtain rfl : v1 = ((Value.slice A1 n c1')) := h1
      simp only [GFin, List.take_succ_cons, List.take_zero, List.drop_succ_cons, List.drop_zero, Act.put, List.setIfInBounds_toArray, List.set_cons_succ, List.set_cons_zero]
      obtain ⟨A4, c4, rfl, hr4⟩ := h4
      have n1 := blk_more c1.out hg
      have y1 : w'.cell? ⟨w.heap.size + 1, 1, none⟩ = some (.slice A1 n c1') := n1.cell 1
      have ho2 := Lib.hid (OS.below ho.out hg)
      have m1 := Lib.hid n1
      have G2 := Lib.hid hg
      have hbase : w3.heap.size ≤ w'.heap.size := Nat.le_trans hWb (Below.size hg)
      replace hr4 := Lib.hid hr4
      clear hsg d0 d1 n1 hg
      go_wp2_with (first
        | ((with_reducible refine wpList_isApp (.tmp 27) (.tmp 30) 27 rfl ?_); refine wpList_append_rowsG rfl (.tmp 27) (.tmp 30) 27 rfl Try.underlying27 signRow rfl (by have := ho2.out; unfold OS at this; rw [hn.out] at this; exact this) w'.heap.size A4 1 c4 (scs [sign b]) rfl hr4.out (scs_one_cell _) (by unfold maxLen; omega) (by omega) hbase (scs ((pre.map fun k => sign (at_ l h k)) ++ [sign b])) (scs_append _ _) (n + 1) rfl ?_; intro A9 c9 w9 o9 b9 k9; have m9 := Lib.hid (m1.out.below b9 (by omega)); have f9 := m9.out.frozen 1; have y9 := m9.out.cell 1; replace o9 := Lib.hid o9; replace b9 := Lib.hid b9; replace k9 := Lib.hid k9; clear ho2 y1))
      have hL : ((pre.map fun k => sign (at_ l h k)) ++ [sign b]).length = n + 1 := by rw [List.length_append, hn.out]; rfl
      have o9' : OS 33 w9 w3.heap.size (.slice A9 ((pre.map fun k => sign (at_ l h k)) ++ [sign b]).length c9) ((pre.map fun k => sign (at_ l h k)) ++ [sign b]) := by unfold OS; rw [hL]; exact o9.out
      have k5 := (Kb.refl (w.heap.size + 1) w9).set 1 (.slice A9 (n + 1) c9)
      have hB9 : Below w.heap.size w w9 := Below.trans (Below.trans hB.out (Below.mono G2.out hB.out.size)) (Below.mono b9.out (by omega))
      have hz9 := (Below.size b9.out)
      have m10 := m9.out.set_ 1 (.slice A9 (n + 1) c9)
      have hm : (pre ++ [x]).map (fun k => sign (at_ l h k)) = (pre.map fun k => sign (at_ l h k)) ++ [sign b] := by rw [List.map_append, ← hb.out]; rfl
      have heq : ∀ i, i < w3.heap.size → i ≠ w.heap.size + 1 → (w9.setCell ⟨w.heap.size + 1, 1, none⟩ (.slice A9 (n + 1) c9)).heap[i]? = W.heap[i]? := fun i h1 h2 =>
        ((Below.heap_setCell _ _ _ _ h2).trans (Below.block b9.out i h1)).trans (Below.block G2.out i (by omega))
      rw [← z3]
      refine ⟨(gr_from G2.out _).trans ((k9.out.trans (KeepsOthers.setCell _ _ _)).from _), ⟨heq _ (by omega) (by omega), heq _ (by omega) (by omega)⟩, ?_, (heq _ (by omega) (by omega)).trans c0.out, ⟨A9, c9, ?_, ?_⟩, below_kb hB9 k5 (by omega), by rw [World.size_setCell]; omega⟩
      · intro y hy
        rcases List.mem_append.1 hy with hy | hy
        · exact hp.out y hy
        · obtain rfl : y = x := by simpa using hy
          rw [hb.out]
          exact hqH.out
      · rw [hm, hL]
        exact m10
      · rw [hm]
        exact os_kb o9' k5 (by omega)
  case done =>
    rintro D ys W hD rfl ⟨hp, c0, ⟨A1, c1', c1, ho⟩, hB, hWs⟩ hK
    obtain ⟨hcn, hmod⟩ := full_of (by omega) hp
    rw [hcn] at c1 ho
    have e1 : ((List.range (l.length / h)).map fun k => sign (at_ l h k)) = full l h := rfl
    have e2 : lastOf l h = zero := by unfold lastOf; rw [if_neg (by omega)]
    rw [e1] at c1 ho
    rw [e2, hmod] at hsig
    obtain ⟨bl, hbl⟩ : ∃ bl, full l h = bl := ⟨_, rfl⟩
    rw [hbl] at c1 ho hsig
    obtain rfl : _ = s := hsig.out
    clear hbl e1 e2 hcn hsig
    have hKd : Hid (W.heap[D]? = some (.deferred (some []))) := Lib.hid hK
    have hDW : D < W.heap.size := (Array.getElem?_eq_some_iff.1 hK).1
    have hDr : D ≠ w.heap.size := by omega
    replace c0 := Lib.hid c0
    replace c1 := Lib.hid c1
    replace ho := Lib.hid ho
    replace hB := Lib.hid hB
    clear bb bs i0 i1 gg hre hrh hp hK
    rename_i hk
    refine hk _ _ ?_
    clear hk
    go_wp2_with (first
      | ((with_reducible refine wpList_isLoad 35 (.tmp 5) rfl ?_); refine wpList_load_row rfl 35 (.tmp 5) rfl (w.heap.size + 1) rfl 35 _ (0, 0) _ c1.out Try.underlying35 rfl (sigInfo _ _ _ _ _ _) ?_)
      | ((with_reducible refine wpList_isStore 35 (.tmp 4) (.tmp 33) rfl ?_); refine wpList_store_blk rfl 35 (.tmp 4) (.tmp 33) rfl w.heap.size _ rfl rfl 35 sigZ c0.out (sigInfo _ _ _ _ _ _) rfl (by simp [Value.oneCell']) ?_; intro w9 n9 k9 z9; have hKd9 := Lib.hid (((World.grownBy.block k9 D hDW (fun e => hDr (Option.some.inj e))).trans hKd.out)); replace n9 := Lib.hid n9; replace k9 := Lib.hid k9; replace z9 := Lib.hid z9))
    refine ⟨by simp, .inl ⟨_, _, rfl, run_takeDeferred hKd9.out, ?_⟩⟩
    have k0' : Blk (w9.putObj D (.deferred none)) w.heap.size 35 _ := n9.out.grown (grownBy_putObj' _ D (.deferred none)) (fun e => hDr (Option.some.inj e).symm)
    refine ⟨_, results_cell_row Try.results10 _ _ w.heap.size 35 _ (0, 0) _ rfl k0' Try.underlying35 rfl (sigInfo _ _ _ _ _ _), A1, c1', rfl, OR.base_le (or_own (os_kb ho.out k9.out (by omega)) (grownBy_putObj' _ D (.deferred none)) (fun r e => by cases e; exact ⟨_, hKd9.out, rfl⟩)) (by omega), (below_kb hB.out k9.out (Nat.le_refl _)).trans (belowK_b (w := w) (Nat.le_refl _) _ D _ _ (by omega) hKd9.out rfl rfl)⟩
  case stop =>
    rintro D cc pre W hD ⟨j, hj, hpre⟩ ⟨rfl, ini, last, e1, e2, e3, c0, ⟨A1, c1', c1, ho⟩, hB, hWs⟩ hK
    obtain ⟨hini, hlast, hmod⟩ := last_of (by omega) hj (e1.symm.trans hpre) e2 e3
    subst hini hlast
    clear hj hpre e1 e2 e3
    have e1 : ((List.range (l.length / h)).map fun k => sign (at_ l h k)) = full l h := rfl
    have e2 : lastOf l h = sign (at_ l h (l.length / h)) := by unfold lastOf; rw [if_pos hmod]
    rw [e1, at_last hmod (by omega)] at c1
    rw [e1] at ho
    rw [e2] at hsig
    obtain ⟨bl, hbl⟩ : ∃ bl, full l h = bl := ⟨_, rfl⟩
    rw [hbl] at c1 ho hsig
    obtain ⟨x, hx⟩ : ∃ x, sign (at_ l h (l.length / h)) = x := ⟨_, rfl⟩
    rw [hx] at c1 hsig
    obtain ⟨t, ht⟩ : ∃ t, l.length % h = t := ⟨_, rfl⟩
    rw [ht] at c1 hsig
    obtain rfl : _ = s := hsig.out
    clear hbl hx ht e1 e2 hmod hsig
    have hKd : Hid (W.heap[D]? = some (.deferred (some []))) := Lib.hid hK
    have hDW : D < W.heap.size := (Array.getElem?_eq_some_iff.1 hK).1
    have hDr : D ≠ w.heap.size := by omega
    replace c0 := Lib.hid c0
    replace c1 := Lib.hid c1
    replace ho := Lib.hid ho
    replace hB := Lib.hid hB
    clear bb bs i0 i1 gg hre hrh hK
    refine wpIn_wide.2 ?_
    go_wp2_with (first
      | ((with_reducible refine wpList_isLoad 35 (.tmp 5) rfl ?_); refine wpList_load_row rfl 35 (.tmp 5) rfl (w.heap.size + 1) rfl 35 _ (0, 0) _ c1.out Try.underlying35 rfl (sigInfo _ _ _ _ _ _) ?_)
      | ((with_reducible refine wpList_isStore 35 (.tmp 4) (.tmp 33) rfl ?_); refine wpList_store_blk rfl 35 (.tmp 4) (.tmp 33) rfl w.heap.size _ rfl rfl 35 sigZ c0.out (sigInfo _ _ _ _ _ _) rfl (by simp [Value.oneCell']) ?_; intro w9 n9 k9 z9; have hKd9 := Lib.hid (((World.grownBy.block k9 D hDW (fun e => hDr (Option.some.inj e))).trans hKd.out)); replace n9 := Lib.hid n9; replace k9 := Lib.hid k9; replace z9 := Lib.hid z9))
    refine ⟨by simp, .inl ⟨_, _, rfl, run_takeDeferred hKd9.out, ?_⟩⟩
    have k0' : Blk (w9.putObj D (.deferred none)) w.heap.size 35 _ := n9.out.grown (grownBy_putObj' _ D (.deferred none)) (fun e => hDr (Option.some.inj e).symm)
    refine ⟨_, results_cell_row Try.results10 _ _ w.heap.size 35 _ (0, 0) _ rfl k0' Try.underlying35 rfl (sigInfo _ _ _ _ _ _), A1, c1', rfl, OR.base_le (or_own (os_kb ho.out k9.out (by omega)) (grownBy_putObj' _ D (.deferred none)) (fun r e => by cases e; exact ⟨_, hKd9.out, rfl⟩)) (by omega), (below_kb hB.out k9.out (Nat.le_refl _)).trans (belowK_b (w := w) (Nat.le_refl _) _ D _ _ (by omega) hKd9.out rfl rfl)⟩
end Sg
end Go.Proofs.Ytcibngbgcnnjnaa

