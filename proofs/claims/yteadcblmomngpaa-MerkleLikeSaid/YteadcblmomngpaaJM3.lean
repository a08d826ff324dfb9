/- Texts that the law rests on, merged. No condition. -/
import Derived.Test.YteadcblmomngpaaJM1
import Derived.Test.YteadcblmomngpaaJM2
import Derived.Laws.ResultCell
import Derived.Test.YteadcblmomngpaaChecked
import Derived.WalkKit
import Derived.WalkLawsBesides
import Derived.WalkSpells
import Derived.Deep.QuietTactic
import Derived.BigQuiet
import Derived.Deep.RegionLaw
import Derived.Deep.RegionHeld3
import Derived.Laws.MakeOwn
set_option linter.unusedVariables false
set_option linter.unusedSimpArgs false
namespace Go.Proofs.Yteadcblmomngpaa
open Go Go.RowKit Go.Shelf W
attribute [local go_sem] Oper.semAt_some
namespace Pth
theorem below_kb {w X Y : World} {b : Nat} (h : Below w.heap.size w X) (k : Kb b X Y) (hb : w.heap.size ≤ b) : Below w.heap.size w Y :=
  ⟨k.os.trans h.os, k.tape.trans h.tape, k.output.trans h.output, Nat.le_trans h.size k.size, fun i hi => (World.grownBy.block k i (Nat.lt_of_lt_of_le hi h.size) (fun e => by cases e; omega)).trans (h.block i hi)⟩
def RtI (r : Nat) (w : World) (pre : List (List UInt8)) (W : World) : Prop := ((∀ x ∈ pre, name x = true) ∧ pre.length ≤ 16) ∧ Blk W r 4 #[.bool false] ∧ Blk W (r + 1) 3 #[.int .i64 (pre.length : Int)] ∧ Below w.heap.size w W
def RtX (r : Nat) (w : World) (c : Code) (pre : List (List UInt8)) (W : World) : Prop := (c = .ret ∧ (16 < pre.length ∨ ∃ x ∈ pre, name x = false)) ∧ Blk W r 4 #[.bool false] ∧ Below w.heap.size w W
theorem rtI_own (r : Nat) (w : World) (B : Nat) (hB : w.heap.size ≤ B) : OwnFrom B (RtI r w) := fun s X Y row hs hg hr =>
  ⟨hs.1, blk_own (fun (_ : List (List UInt8)) => #[.bool false]) B s X Y row hs.2.1 hg hr, blk_own (fun (l : List (List UInt8)) => #[.int .i64 (l.length : Int)]) B s X Y row hs.2.2.1 hg hr, ownFrom_below (β := List (List UInt8)) (Nat.le_refl _) hB s X Y row hs.2.2.2 hg hr⟩
theorem rtX_own (r : Nat) (w : World) (B : Nat) (hB : w.heap.size ≤ B) (c : Code) : OwnFrom B (RtX r w c) := fun s X Y row hs hg hr =>
  ⟨hs.1, blk_own (fun (_ : List (List UInt8)) => #[.bool false]) B s X Y row hs.2.1 hg hr, ownFrom_below (β := List (List UInt8)) (Nat.le_refl _) hB s X Y row hs.2.2 hg hr⟩
theorem rtI_bears (r : Nat) (w : World) (b : Nat) (h1 : r ≠ b) (h2 : r + 1 ≠ b) (h3 : w.heap.size ≤ b) : Bears b (RtI r w) := fun s X Y hs k => ⟨hs.1, k.blk hs.2.1 h1, k.blk hs.2.2.1 h2, below_kb hs.2.2.2 k h3⟩
theorem rtX_bears (r : Nat) (w : World) (b : Nat) (h1 : r ≠ b) (h3 : w.heap.size ≤ b) (c : Code) : Bears b (RtX r w c) := fun s X Y hs k => ⟨hs.1, k.blk hs.2.1 h1, below_kb hs.2.2 k h3⟩
/-- Block b lies as it lay. -/
def One (b : Nat) (X Y : World) : Prop := Y.heap[b]? = X.heap[b]?
theorem One.trans {b : Nat} {X Y Z : World} (h : One b X Y) (k : One b Y Z) : One b X Z := Eq.trans k h
theorem One.putObj {b : Nat} (X : World) (l : Nat) (o : Obj) (h : b + 1 ≤ l) : One b X (X.putObj l o) := World.putObj_heap_other (by omega)
theorem One.set {b g : Nat} (X : World) (v : Value) (h : b ≠ g) : One b X (X.setCell ⟨g, 0, none⟩ v) := Below.heap_setCell X ⟨g, 0, none⟩ v b h
set_option maxRecDepth 100000 in
set_option maxHeartbeats 4000000 in
theorem right_any (p : List UInt8) (w : World) (hl : p.length ≤ 1000000) : Calls Try.prog 41 #[str p] w fun e w' => e = .returned (.bool (right p)) ∧ Gr w w' := by
  refine (callsIn_wide (n := 5)).1 ?_
  obtain ⟨r, hr⟩ : ∃ r, right p = r := ⟨_, rfl⟩
  rw [hr]
  have b0 := Blk.new w 4 #[.bool false]
  have g0 := (Gr.refl w).alloc (.cells #[.bool false] 4)
  refine callsIn_of_wp_marks Try.func41 rfl trivial ?_ rfl
  simp only [Try.ntmps41, List.size_toArray, List.length_cons, List.length_nil, Nat.reduceAdd, Nat.reduceSub, Array.replicate_succ, Array.replicate_zero, List.push_toArray, List.append_toArray, List.nil_append, List.cons_append]
  refine wpIn_wide.2 ?_
  by_cases hp : p = []
  · obtain rfl : r = true := by rw [← hr, hp]; rfl
    subst hp
    clear b0 g0 hr
    have r1 := (Blk.new w 4 #[.bool true]).cell 0
    have g1 := (Gr.refl w).alloc (.cells #[.bool true] 4)
    replace r1 := Lib.hid r1
    go_wp2
    refine ⟨.bool true, ?_, rfl, g1⟩
    have r2 : (w.alloc (.cells #[.bool true] 4)).cell? ⟨w.heap.size, 0, none⟩ = some (.bool true) := r1.out
    simp [results, Try.f41, go_sem, r2]
  · have hpb : (p == []) = false := by simpa using hp
    have b1 := Lib.hid (b0.alloc (.cells #[.int .i64 0] 3))
    have n1 := Blk.new (w.alloc (.cells #[.bool false] 4)) 3 #[.int .i64 0]
    rw [World.size_alloc] at n1
    have f1 := n1.frozen 0
    have x1 := n1.cell 0
    replace n1 := Lib.hid n1
    have g1 := Lib.hid (g0.alloc (.cells #[.int .i64 0] 3))
    clear b0 g0
    have hz2 : ((w.alloc (.cells #[.bool false] 4)).alloc (.cells #[.int .i64 0] 3)).heap.size = w.heap.size + 2 := by simp
    go_wp2_with fail
    go_at_call 61
    refine (cut_any p (w.heap.size + 2) _ hz2).mono ?_
    rintro e w3 ⟨rfl, bb, g3, z3⟩
    have m0 := Lib.hid (blk_more b1.out g3)
    have m1 := Lib.hid (blk_more n1.out g3)
    have gg := Lib.hid (Gr.trans g1.out g3)
    replace bb := Lib.hid bb
    clear b1 n1 g1 g3 f1 x1 hz2
    go_wp2
    refine (wpIn_wide (n := 5)).1 ?_
    refine wpIn_rangeBox (b := w.heap.size + 2) (by omega) rfl (by omega) (gf := 67) (lb := #[.pointer (some ⟨w.heap.size + 2, 0, none⟩)]) rfl trivial (enters_of Try.func67 (by kernel_rfl) rfl)
      (Kp := One (w.heap.size + 2)) (fun W hW => cut_seq 4 (by omega) (w.heap.size + 2) p hl (One (w.heap.size + 2)) (fun k hb => Eq.trans k hb) W (bb.out.below hW (by omega)))
      One.trans (fun W l o hl => One.putObj W l o (by omega)) (fun _ => rfl)
      (RtI w.heap.size w) (RtX w.heap.size w) (rtI_own _ _ _ (by omega)) (fun c => rtX_own _ _ _ (by omega) c) (rtI_bears _ _ _ (by omega) (by omega) (by omega)) (fun c => rtX_bears _ _ _ (by omega) (by omega) c)
      ⟨⟨by simp, by simp⟩, m0.out, m1.out, gg.out⟩ ?a1 ?assign ?body ?done ?stop
    case assign =>
      intro lp x W K hK
      dsimp only
      gi_wp2
      exact hK
    case body =>
      rintro lp pre x W ⟨⟨hp1, hp2⟩, c0, c1, hB⟩ _
      clear bb m0 m1 gg
      have d1 := c1.cell 0
      have f1 := c1.frozen 0
      have hws := c1.lt
      have kw : IntKind.i64.wrap ((pre.length : Int) + 1) = (pre.length : Int) + 1 := IntWalk.i64_in _ (by omega)
      have k1 := c1.set_ 0 (.int .i64 ((pre.length : Int) + 1))
      have e1 := k1.cell 0
      replace k1 := Lib.hid k1
      have k0 := c0.far (p := ⟨w.heap.size + 1, 0, none⟩) (by show w.heap.size ≠ w.heap.size + 1; omega) (.int .i64 ((pre.length : Int) + 1))
      have x0 := k0.frozen 0
      have y0 := k0.cell 0
      replace k0 := Lib.hid k0
      have hB1 := Lib.hid (hB.setCell (p := ⟨w.heap.size + 1, 0, none⟩) (by show w.heap.size ≤ w.heap.size + 1; omega) (.int .i64 ((pre.length : Int) + 1)))
      clear c0 c1 hB
      by_cases hn : 16 < pre.length + 1
      · have i1 : (16 : Int) < (pre.length : Int) + 1 := by omega
        gi_wp2_with fail
        refine ⟨trivial, ?_⟩
        gi_wp2
        refine ⟨((KeepsOthers.setCell _ _ _).trans (KeepsOthers.setCell _ _ _)).from _, ⟨rfl, .inl (by rw [List.length_append]; exact hn)⟩, k0.out.set_ 0 _, hB1.out.setCell (p := ⟨w.heap.size, 0, none⟩) (Nat.le_refl _) _⟩
      · have i1 : ¬ (16 : Int) < (pre.length : Int) + 1 := by omega
        have hna := Lib.hid (name_any x (W.setCell ⟨w.heap.size + 1, 0, none⟩ (.int .i64 ((pre.length : Int) + 1))))
        cases hb : name x with
        | true =>
          rw [hb] at hna
          gi_wp2_with fail
          refine ⟨trivial, ?_⟩
          gi_at_call 62
          refine (CallsIn.inRound lp (callsIn_wide.2 hna.out)).mono ?_
          rintro e W2 ⟨rfl, rfl⟩
          clear hna
          gi_wp2
          refine ⟨(KeepsOthers.setCell _ _ _).from _, One.set _ _ (by omega), ⟨⟨fun y hy => ?_, by rw [List.length_append]; simp; omega⟩, k0.out, ?_, hB1.out⟩⟩
          · rcases List.mem_append.1 hy with hy | hy
            · exact hp1 y hy
            · obtain rfl : y = x := by simpa using hy
              exact hb
          · have := k1.out
            rw [List.length_append]
            simpa using this
        | false =>
          rw [hb] at hna
          gi_wp2_with fail
          refine ⟨trivial, ?_⟩
          gi_at_call 62
          refine (CallsIn.inRound lp (callsIn_wide.2 hna.out)).mono ?_
          rintro e W2 ⟨rfl, rfl⟩
          clear hna
          gi_wp2
          refine ⟨((KeepsOthers.setCell _ _ _).trans (KeepsOthers.setCell _ _ _)).from _, ⟨rfl, .inr ⟨x, by simp, hb⟩⟩, k0.out.set_ 0 _, hB1.out.setCell (p := ⟨w.heap.size, 0, none⟩) (Nat.le_refl _) _⟩
    case done =>
      rintro D ys W hD rfl ⟨⟨h1, h2⟩, c0, c1, hB⟩ hK
      obtain rfl : r = true := by rw [← hr]; exact (right_iff p).2 ⟨h1, h2⟩
      have d0 := c0.cell 0
      have f0 := c0.frozen 0
      have c0' := Lib.hid (c0.set_ 0 (.bool true))
      have hB1 := Lib.hid (hB.setCell (p := ⟨w.heap.size, 0, none⟩) (Nat.le_refl _) (.bool true))
      have hK' := Lib.hid ((KeepsOthers.setCell W ⟨w.heap.size, 0, none⟩ (.bool true)).same D _ hK rfl)
      clear h1 h2 c0 c1 hB bb m0 m1 gg hr hK
      rename_i hk
      refine hk _ _ ?_
      clear hk
      go_wp2
      refine ⟨by simp, .inl ⟨_, _, rfl, run_takeDeferred hK'.out, ?_⟩⟩
      have r1 := cell_kept (c0'.out.cell 0) (grownBy_putObj' _ D (.deferred none)) (fun r e => by cases e; exact ⟨_, hK'.out, rfl⟩)
      refine ⟨.bool true, ?_, rfl, hB1.out.trans (belowK_b (w := w) (Nat.le_refl _) _ D _ _ (by omega) hK'.out rfl rfl)⟩
      simp [results, Try.f41, go_sem, r1]
    case stop =>
      rintro D cc pre W hD ⟨j, hj⟩ ⟨⟨rfl, h1⟩, c0, hB⟩ hK
      have hw : ¬ right p = true := fun h => by
        obtain ⟨h2, h3⟩ := (right_iff p).1 h
        rw [← hj] at h2 h3
        rcases h1 with h1 | ⟨x, hx, h1⟩
        · rw [List.length_append] at h3
          omega
        · rw [h2 x (by simp [hx])] at h1
          cases h1
      obtain rfl : r = false := by
        rw [← hr]
        cases e : right p with
        | true => exact absurd e hw
        | false => rfl
      clear hw h1 hj bb m0 m1 gg hr
      replace c0 := Lib.hid c0
      replace hB := Lib.hid hB
      replace hK := Lib.hid hK
      refine wpIn_wide.2 ?_
      go_wp2
      refine ⟨by simp, .inl ⟨_, _, rfl, run_takeDeferred hK.out, ?_⟩⟩
      have r1 := cell_kept (c0.out.cell 0) (grownBy_putObj' _ D (.deferred none)) (fun r e => by cases e; exact ⟨_, hK.out, rfl⟩)
      refine ⟨.bool false, ?_, rfl, hB.out.trans (belowK_b (w := w) (Nat.le_refl _) _ D _ _ (by omega) hK.out rfl rfl)⟩
      simp [results, Try.f41, go_sem, r1]
end Pth
end Go.Proofs.Yteadcblmomngpaa
namespace Go.Proofs.Yteadcblmomngpaa
open Go Go.RowKit W Pth
namespace Pth
theorem cmpT_neg : ∀ a b : List UInt8, cmpT b a = - cmpT a b
  | [], [] => rfl
  | [], _ :: _ => rfl
  | _ :: _, [] => rfl
  | a :: l, b :: m => by
    unfold cmpT
    have := cmpT_neg l m
    by_cases h1 : a.toNat < b.toNat
    · rw [if_neg (by omega), if_pos h1, if_pos h1]; rfl
    · by_cases h2 : b.toNat < a.toNat
      · rw [if_pos h2, if_neg h1, if_pos h2]
      · rw [if_neg h2, if_neg h1, if_neg h1, if_neg h2, this]
theorem cmpT_zero : ∀ a b : List UInt8, cmpT a b = 0 ↔ a = b
  | [], [] => by simp [cmpT]
  | [], _ :: _ => by simp [cmpT]
  | _ :: _, [] => by simp [cmpT]
  | a :: l, b :: m => by
    unfold cmpT
    have := cmpT_zero l m
    by_cases h1 : a.toNat < b.toNat
    · rw [if_pos h1]
      refine ⟨fun h => absurd h (by decide), fun h => ?_⟩
      injection h with h _
      rw [h] at h1
      omega
    · by_cases h2 : b.toNat < a.toNat
      · rw [if_neg h1, if_pos h2]
        refine ⟨fun h => absurd h (by decide), fun h => ?_⟩
        injection h with h _
        rw [h] at h2
        omega
      · rw [if_neg h1, if_neg h2, this]
        have e : a = b := UInt8.toNat_inj.1 (by omega)
        simp [e]
theorem cmpT_trans : ∀ a b c : List UInt8, cmpT a b < 0 → cmpT b c < 0 → cmpT a c < 0
  | [], [], _, h, _ => absurd h (by simp [cmpT])
  | [], _ :: _, [], _, h => absurd h (by simp [cmpT])
  | [], _ :: _, _ :: _, _, _ => by simp [cmpT]
  | _ :: _, [], _, h, _ => absurd h (by simp [cmpT])
  | _ :: _, _ :: _, [], _, h => absurd h (by simp [cmpT])
  | a :: l, b :: m, c :: n, h, k => by
    unfold cmpT at h k ⊢
    have := cmpT_trans l m n
    by_cases h1 : a.toNat < b.toNat
    · by_cases k1 : b.toNat < c.toNat
      · rw [if_pos (by omega)]; decide
      · by_cases k2 : c.toNat < b.toNat
        · rw [if_neg k1, if_pos k2] at k; exact absurd k (by decide)
        · rw [if_pos (by omega)]; decide
    · by_cases h2 : b.toNat < a.toNat
      · rw [if_neg h1, if_pos h2] at h; exact absurd h (by decide)
      · rw [if_neg h1, if_neg h2] at h
        by_cases k1 : b.toNat < c.toNat
        · rw [if_pos (by omega)]; decide
        · by_cases k2 : c.toNat < b.toNat
          · rw [if_neg k1, if_pos k2] at k; exact absurd k (by decide)
          · rw [if_neg k1, if_neg k2] at k
            rw [if_neg (by omega), if_neg (by omega)]
            exact this h k
theorem cmpL_neg : ∀ a b : List (List UInt8), cmpL b a = - cmpL a b
  | [], [] => rfl
  | [], _ :: _ => rfl
  | _ :: _, [] => rfl
  | a :: l, b :: m => by
    unfold cmpL
    have := cmpL_neg l m
    have h2 := cmpT_neg a b
    by_cases h1 : cmpT a b = 0
    · rw [if_neg (by omega), if_neg (by omega), this]
    · rw [if_pos (by omega), if_pos h1, h2]
theorem cmpL_zero : ∀ a b : List (List UInt8), cmpL a b = 0 ↔ a = b
  | [], [] => by simp [cmpL]
  | [], _ :: _ => by simp [cmpL]
  | _ :: _, [] => by simp [cmpL]
  | a :: l, b :: m => by
    unfold cmpL
    have := cmpL_zero l m
    have h2 := cmpT_zero a b
    by_cases h1 : cmpT a b = 0
    · rw [if_neg (by omega), this]
      simp [h2.1 h1]
    · rw [if_pos h1]
      refine ⟨fun h => absurd h h1, fun h => ?_⟩
      injection h with h _
      exact absurd (h2.2 h) h1
theorem cmpL_trans : ∀ a b c : List (List UInt8), cmpL a b < 0 → cmpL b c < 0 → cmpL a c < 0
  | [], [], _, h, _ => absurd h (by simp [cmpL])
  | [], _ :: _, [], _, h => absurd h (by simp [cmpL])
  | [], _ :: _, _ :: _, _, _ => by simp [cmpL]
  | _ :: _, [], _, h, _ => absurd h (by simp [cmpL])
  | _ :: _, _ :: _, [], _, h => absurd h (by simp [cmpL])
  | a :: l, b :: m, c :: n, h, k => by
    unfold cmpL at h k ⊢
    have := cmpL_trans l m n
    by_cases h1 : cmpT a b = 0
    · obtain rfl := (cmpT_zero a b).1 h1
      rw [if_neg (by omega)] at h
      by_cases k1 : cmpT a c = 0
      · rw [if_neg (by omega)] at k ⊢
        exact this h k
      · rw [if_pos k1] at k ⊢
        exact k
    · rw [if_pos h1] at h
      by_cases k1 : cmpT b c = 0
      · obtain rfl := (cmpT_zero b c).1 k1
        rw [if_pos h1]
        exact h
      · rw [if_pos k1] at k
        have h3 := cmpT_trans a b c h k
        rw [if_pos (by omega)]
        exact h3
theorem cmpL_app (N : List (List UInt8)) (a b : List (List UInt8)) : cmpL (N ++ a) (N ++ b) = cmpL a b := by
  induction N with
  | nil => rfl
  | cons x N ih =>
    rw [List.cons_append, List.cons_append, cmpL, if_neg (by rw [(cmpT_zero x x).2 rfl]; simp), ih]
theorem cut_inj {p q : List UInt8} (h : cut p = cut q) : p = q := by rw [← glue_cut p, ← glue_cut q, h]
theorem cmp_zero {p q : List UInt8} : cmp p q = 0 ↔ p = q := by
  unfold cmp
  rw [cmpL_zero]
  exact ⟨cut_inj, fun h => by rw [h]⟩
theorem cmp_neg (p q : List UInt8) : cmp q p = - cmp p q := cmpL_neg _ _
theorem cmp_trans {p q r : List UInt8} (h : cmp p q < 0) (k : cmp q r < 0) : cmp p r < 0 := cmpL_trans _ _ _ h k
end Pth
namespace Tr
/-- In the order of paths. -/
def Srt (t : List Nd) : Prop := t.Pairwise fun x y => cmp x.p y.p < 0
theorem insert_srt {t : List Nd} {n : Nd} (h : Srt t) (hn : ∀ x ∈ t, x.p ≠ n.p) : Srt (insert t n) := by
  unfold insert
  induction t with
  | nil => simp [Srt]
  | cons x t ih =>
    obtain ⟨h1, h2⟩ := List.pairwise_cons.1 h
    have ih := ih h2 (fun y hy => hn y (List.mem_cons_of_mem _ hy))
    have hx := hn x (by simp)
    have hz : cmp x.p n.p ≠ 0 := fun e => hx (cmp_zero.1 e)
    by_cases hc : cmp x.p n.p ≤ 0
    · rw [List.takeWhile_cons, List.dropWhile_cons, if_pos (by simpa using hc), if_pos (by simpa using hc), List.cons_append]
      refine List.pairwise_cons.2 ⟨fun y hy => ?_, ih⟩
      have hy' : y = n ∨ y ∈ t := by
        rcases List.mem_append.1 hy with hy | hy
        · exact .inr ((List.takeWhile_sublist _).subset hy)
        · rcases List.mem_cons.1 hy with rfl | hy
          · exact .inl rfl
          · exact .inr ((List.dropWhile_sublist _).subset hy)
      rcases hy' with rfl | hy'
      · omega
      · exact h1 y hy'
    · rw [List.takeWhile_cons, List.dropWhile_cons, if_neg (by simpa using hc), if_neg (by simpa using hc), List.nil_append]
      have hg : cmp n.p x.p < 0 := by rw [cmp_neg]; omega
      refine List.pairwise_cons.2 ⟨fun y hy => ?_, h⟩
      rcases List.mem_cons.1 hy with rfl | hy
      · exact hg
      · exact cmp_trans hg (h1 y hy)
theorem sorted_srt (l : List Nd) : Srt (sorted l) := by
  unfold sorted
  suffices h : ∀ s, Srt s → Srt (l.foldl (fun s n => if nodeC n = 0 ∧ at_ s n.p = none then insert s n else s) s) from h [] (by simp [Srt])
  induction l with
  | nil => exact fun s h => h
  | cons a l ih =>
    intro s hs
    rw [List.foldl_cons]
    refine ih _ ?_
    by_cases hc : nodeC a = 0 ∧ at_ s a.p = none
    · rw [if_pos hc]
      exact insert_srt hs (at_none hc.2).1
    · rw [if_neg hc]
      exact hs
theorem of_srt (l : List Nd) : Srt (of l) := List.Pairwise.sublist (taken_sub (sorted l)) (sorted_srt l)
theorem sorted_right (l : List Nd) : ∀ n ∈ sorted l, nodeC n = 0 := by
  unfold sorted
  suffices h : ∀ s, (∀ n ∈ s, nodeC n = 0) → ∀ n ∈ l.foldl (fun s n => if nodeC n = 0 ∧ at_ s n.p = none then insert s n else s) s, nodeC n = 0 from h [] (by simp)
  induction l with
  | nil => exact fun s h => h
  | cons a l ih =>
    intro s hs
    rw [List.foldl_cons]
    refine ih _ ?_
    by_cases hc : nodeC a = 0 ∧ at_ s a.p = none
    · rw [if_pos hc]
      intro n hn
      rcases insert_mem hn with rfl | hn
      · exact hc.1
      · exact hs n hn
    · rw [if_neg hc]
      exact hs
theorem of_right (l : List Nd) : ∀ n ∈ of l, nodeC n = 0 := fun n hn => sorted_right l n (taken_mem _ n hn)
/-- What a well-formed node is. -/
theorem node_right {n : Nd} (h : nodeC n = 0) : n.p ≠ [] ∧ right n.p = true ∧ 1 ≤ n.kind ∧ n.kind ≤ 3 ∧ (n.kind = 1 → n.data = []) := by
  unfold nodeC Pth.nodeC at h
  by_cases h1 : n.p = [] ∨ right n.p = false
  · rw [if_pos h1] at h; cases h
  · rw [if_neg h1] at h
    by_cases h2 : n.kind < 1 ∨ 3 < n.kind
    · rw [if_pos h2] at h; cases h
    · rw [if_neg h2] at h
      by_cases h3 : (n.kind = 1 ∧ 0 < n.data.length) ∨ (n.kind = 2 ∧ 16384 < n.data.length) ∨ (n.kind = 3 ∧ 64 < n.data.length)
      · rw [if_pos h3] at h; cases h
      · refine ⟨fun e => h1 (.inl e), ?_, by omega, by omega, fun e => ?_⟩
        · cases e : right n.p with
          | true => rfl
          | false => exact absurd (.inr e) h1
        · by_cases e2 : n.data.length = 0
          · exact List.eq_nil_of_length_eq_zero e2
          · exact absurd (.inl ⟨e, by omega⟩) h3
/-- Each node's parent is there, and is a directory. -/
theorem taken_up (s : List Nd) : ∀ n ∈ taken s, (parent n.p).getD [] = [] ∨ ∃ m ∈ taken s, m.p = (parent n.p).getD [] ∧ m.kind = 1 := by
  unfold taken
  suffices h : ∀ o, (∀ n ∈ o, (parent n.p).getD [] = [] ∨ ∃ m ∈ o, m.p = (parent n.p).getD [] ∧ m.kind = 1) →
      ∀ n ∈ s.foldl (fun o n => if parentC o n.p = 0 ∧ o.length < 512 then o ++ [n] else o) o, (parent n.p).getD [] = [] ∨ ∃ m ∈ s.foldl (fun o n => if parentC o n.p = 0 ∧ o.length < 512 then o ++ [n] else o) o, m.p = (parent n.p).getD [] ∧ m.kind = 1 from h [] (by simp)
  induction s with
  | nil => exact fun o h => h
  | cons a s ih =>
    intro o ho
    rw [List.foldl_cons]
    refine ih _ ?_
    by_cases hc : parentC o a.p = 0 ∧ o.length < 512
    · rw [if_pos hc]
      intro n hn
      rcases List.mem_append.1 hn with hn | hn
      · rcases ho n hn with h | ⟨m, hm, h⟩
        · exact .inl h
        · exact .inr ⟨m, List.mem_append_left _ hm, h⟩
      · obtain rfl : n = a := by simpa using hn
        have hp := hc.1
        unfold parentC at hp
        by_cases e : (parent n.p).getD [] = []
        · exact .inl e
        · rw [if_neg e] at hp
          cases ef : find o ((parent n.p).getD []) with
          | none => rw [ef] at hp; cases hp
          | some m =>
            rw [ef] at hp
            simp only at hp
            by_cases hk : m.kind = 1
            · have h1 := List.find?_some ef
              exact .inr ⟨m, List.mem_append_left _ (List.mem_of_find?_eq_some ef), by simpa using h1, hk⟩
            · rw [if_pos hk] at hp; cases hp
    · rw [if_neg hc]
      exact ho
/-- A well-formed tree. -/
structure Tree (t : List Nd) : Prop where
  srt : Srt t
  node : ∀ n ∈ t, nodeC n = 0
  up : ∀ n ∈ t, (parent n.p).getD [] = [] ∨ ∃ m ∈ t, m.p = (parent n.p).getD [] ∧ m.kind = 1
theorem of_tree (l : List Nd) : Tree (of l) := ⟨of_srt l, of_right l, taken_up _⟩
theorem srt_uniq {t : List Nd} (h : Srt t) (h2 : ∀ n ∈ t, n.p ≠ []) : Uniq t := by
  refine ⟨?_, h2⟩
  rw [List.Nodup, List.pairwise_map]
  exact h.imp fun hlt e => by rw [cmp_zero.2 e] at hlt; omega
theorem Tree.uniq {t : List Nd} (h : Tree t) : Uniq t := srt_uniq h.srt fun n hn => (node_right (h.node n hn)).1
end Tr
end Go.Proofs.Yteadcblmomngpaa
namespace Go.Proofs.Yteadcblmomngpaa
open Go Go.RowKit Go.Shelf W
namespace Pth
theorem splitC_last (a r : List UInt8) (h : ∀ x ∈ r, x ≠ 47) : splitC (a ++ 47 :: r) = splitC a ++ [r] := by
  induction a with
  | nil =>
    have : splitC (47 :: r) = [] :: splitC r := by rw [splitC, if_pos rfl]
    rw [List.nil_append, this, splitC_none h]; rfl
  | cons c a ih =>
    obtain ⟨b, l, e⟩ := splitC_pos a
    rw [List.cons_append, splitC]
    conv => rhs; rw [splitC]
    by_cases hc : c = 47
    · rw [if_pos hc, if_pos hc, ih]; rfl
    · rw [if_neg hc, if_neg hc, ih, e]; rfl
/-- A right path's parent and base, by the last slash. -/
theorem up_none {p : List UInt8} (hp : p ≠ []) (hr : right p = true) (h : ∀ x ∈ p, x ≠ 47) : parent p = some [] ∧ base p = p := by
  have e : names p = [p] := by
    rw [names_right hr]
    unfold cut
    rw [if_neg hp, splitC_none h]
  unfold parent base
  rw [e]
  exact ⟨rfl, rfl⟩
theorem up_some {a r : List UInt8} (hr : right (a ++ 47 :: r) = true) (h : ∀ x ∈ r, x ≠ 47) : parent (a ++ 47 :: r) = some a ∧ base (a ++ 47 :: r) = r := by
  have e : names (a ++ 47 :: r) = splitC a ++ [r] := by
    rw [names_right hr]
    unfold cut
    rw [if_neg (by simp), splitC_last a r h]
  unfold parent base
  rw [e, if_neg (by simp), List.dropLast_concat, glue_split]
  exact ⟨rfl, by simp⟩
theorem up_wrong {p : List UInt8} (h : right p = false) : parent p = none ∧ base p = [] := by
  unfold parent base
  rw [names_wrong h]
  exact ⟨rfl, rfl⟩
theorem up_nil : parent [] = none ∧ base [] = [] := ⟨rfl, rfl⟩
set_option maxRecDepth 100000 in
set_option maxHeartbeats 2000000 in
theorem parent_any (p : List UInt8) (w : World) (hl : p.length ≤ 1000000) : Calls Try.prog 43 #[str p] w fun e w' => e = .returned (parentV (parent p)) ∧ Gr w w' := by
  obtain ⟨r, hr⟩ : ∃ r, parent p = r := ⟨_, rfl⟩
  rw [hr]
  by_cases hp : p = []
  · obtain rfl : r = none := by rw [← hr, hp]; exact up_nil.1
    subst hp
    clear hr
    have g0 := Lib.hid (Gr.refl w)
    go_enter Try.func43, Try.ntmps43
    go_wp2
    go_ret2
    exact ⟨rfl, g0.out⟩
  · have hpb : (p == []) = false := by simpa using hp
    have hri := Lib.hid (right_any p w hl)
    cases hb : right p with
    | false =>
      rw [hb] at hri
      obtain rfl : r = none := by rw [← hr]; exact (up_wrong hb).1
      clear hr hb hp
      go_enter Try.func43, Try.ntmps43
      go_wp2_with fail
      go_at_call 41
      refine hri.out.mono ?_
      rintro e w1 ⟨rfl, g1⟩
      replace g1 := Lib.hid g1
      clear hri
      go_wp2
      go_ret2
      exact ⟨rfl, g1.out⟩
    | true =>
      rw [hb] at hri
      have hla := Lib.hid (fun w => last_any p 47 w hl)
      have hu : ∀ z, LastAt p 47 z → ∃ k : Nat, k ≤ p.length ∧ (z = -1 ∧ k = 0 ∨ z = (k : Int)) ∧ r = some (p.take k) := by
        rintro z (⟨rfl, h⟩ | ⟨a, t, rfl, h, rfl⟩)
        · exact ⟨0, by omega, .inl ⟨rfl, rfl⟩, by rw [← hr, (up_none hp hb h).1]; rfl⟩
        · exact ⟨a.length, by simp, .inr rfl, by rw [← hr, (up_some hb h).1, List.take_left' rfl]⟩
      replace hu := Lib.hid hu
      clear hr hb hp
      go_enter Try.func43, Try.ntmps43
      go_wp2_with fail
      go_at_call 41
      refine hri.out.mono ?_
      rintro e w1 ⟨rfl, g1⟩
      replace g1 := Lib.hid g1
      clear hri
      go_wp2_with fail
      go_at_call 42
      refine (hla.out _).mono ?_
      rintro e w2 ⟨⟨z, rfl, hz⟩, rfl⟩
      obtain ⟨k, hk, hm, rfl⟩ := hu.out z hz
      clear hla hz hu
      have hki : (k : Int) ≤ (p.length : Int) := by omega
      have h0 : ¬ (k : Int) < 0 := by omega
      rcases hm with ⟨rfl, rfl⟩ | rfl
      · go_wp2
        go_ret2
        exact ⟨rfl, g1.out⟩
      · go_wp2
        go_ret2
        exact ⟨rfl, g1.out⟩
set_option maxRecDepth 100000 in
set_option maxHeartbeats 2000000 in
theorem base_any (p : List UInt8) (w : World) (hl : p.length ≤ 1000000) : Calls Try.prog 24 #[str p] w fun e w' => e = .returned (str (base p)) ∧ Gr w w' := by
  obtain ⟨r, hr⟩ : ∃ r, base p = r := ⟨_, rfl⟩
  rw [hr]
  have hri := Lib.hid (right_any p w hl)
  cases hb : right p with
  | false =>
    rw [hb] at hri
    obtain rfl : r = [] := by rw [← hr]; exact (up_wrong hb).2
    clear hr hb
    go_enter Try.func24, Try.ntmps24
    go_wp2_with fail
    go_at_call 41
    refine hri.out.mono ?_
    rintro e w1 ⟨rfl, g1⟩
    replace g1 := Lib.hid g1
    clear hri
    go_wp2
    go_ret
    exact ⟨rfl, g1.out⟩
  | true =>
    rw [hb] at hri
    have hla := Lib.hid (fun w => last_any p 47 w hl)
    have hu : ∀ z, LastAt p 47 z → ∃ k : Nat, k ≤ p.length ∧ IntKind.i64.wrap (z + 1) = (k : Int) ∧ r = p.drop k := by
      rintro z (⟨rfl, h⟩ | ⟨a, t, rfl, h, rfl⟩)
      · refine ⟨0, by omega, by decide, ?_⟩
        rw [← hr]
        by_cases hp : p = []
        · rw [hp]; exact up_nil.2
        · rw [(up_none hp hb h).2]; rfl
      · refine ⟨a.length + 1, by simp, ?_, ?_⟩
        · rw [List.length_append, List.length_cons] at hl
          rw [IntKind.wrap_i64]; omega
        · rw [← hr, (up_some hb h).2, List.drop_append, List.drop_of_length_le (by omega), Nat.add_sub_cancel_left]; rfl
    replace hu := Lib.hid hu
    clear hr hb
    go_enter Try.func24, Try.ntmps24
    go_wp2_with fail
    go_at_call 41
    refine hri.out.mono ?_
    rintro e w1 ⟨rfl, g1⟩
    replace g1 := Lib.hid g1
    clear hri
    go_wp2_with fail
    go_at_call 42
    refine (hla.out _).mono ?_
    rintro e w2 ⟨⟨z, rfl, hz⟩, rfl⟩
    obtain ⟨k, hk, hm, rfl⟩ := hu.out z hz
    clear hla hz hu
    have hki : (k : Int) ≤ (p.length : Int) := by omega
    go_wp2
    rw [show List.take (p.length - k) (List.drop k p) = List.drop k p from List.take_of_length_le (by rw [List.length_drop]; omega)]
    go_ret
    exact ⟨rfl, g1.out⟩
end Pth
end Go.Proofs.Yteadcblmomngpaa
namespace Go.Proofs.Yteadcblmomngpaa
open Go Go.RowKit Go.Shelf W Pth
namespace Tr
def noNd : Nd := ⟨[], 0, 0, 0, []⟩
def findV : Option Nd → Value
  | none => .tuple #[nV noNd, .bool false]
  | some n => .tuple #[nV n, .bool true]
abbrev ndA (n : Nd) : Array Value := #[str n.p, .int .i64 n.kind, .int .i64 n.mode, .int .i64 n.time, str n.data]
theorem nodeInfo (a b c d e : Value) : (Try.prog.info? 34).map (·.size) = some (#[a, b, c, d, e] : Array Value).size := by kernel_rfl
theorem results_cell_one {P : Program} {fn : Func} {p u : Tmp} {ty : TypeId} (h : fn.results = #[.cell p ty, .tmp u]) (tmps : Array Value) (w : World) (g : Nat) (t : TypeId) (cs : Array Value) (fr : Nat × Nat) (d : TypeDesc)
    (hp : tmps.getD p undef = .pointer (some ⟨g, 0, none⟩)) (hg : w.heap[g]? = some (.cells cs t fr))
    (hu : P.underlying ty = some d) (hd : (match d with | .struct _ | .array _ _ => true | _ => false) = true) (hi : (P.info? ty).map (·.size) = some cs.size) :
    (results fn tmps).run P w = .ok (.tuple #[.agg cs, tmps.getD u undef]) w := by
  have hp' : tmps[p]?.getD undef = .pointer (some ⟨g, 0, none⟩) := by simpa using hp
  simp [results, h, hp', asAddr, run_loadVar_row w g t ty cs fr d hg hu hd hi]
theorem find_here {l : List Nd} {p : List UInt8} {k : Nat} (hk : k < l.length) (h : l[k].p = p) (hn : ∀ x ∈ l.take k, x.p ≠ p) : find l p = some l[k] := (at_some (at_here hk h hn)).2.2
theorem find_nowhere {l : List Nd} {p : List UInt8} (hn : ∀ x ∈ l, x.p ≠ p) : find l p = none := (at_none (at_nowhere hn)).2
set_option maxRecDepth 100000 in
set_option maxHeartbeats 4000000 in
theorem find_any (A : Option Addr) (c : Nat) (l : List Nd) (p : List UInt8) (w : World) (h : NR w w.heap.size A l) (hl : l.length ≤ 1000000) :
    Calls Try.prog 39 #[.slice A l.length c, str p] w fun e w' => e = .returned (findV (find l p)) ∧ Gr w w' := by
  obtain ⟨r, hr⟩ : ∃ r, find l p = r := ⟨_, rfl⟩
  rw [hr]
  replace hr := Lib.hid hr
  have b0 := Lib.hid (Blk.new w 34 (ndA noNd))
  have g0 := (Gr.refl w).alloc (.cells (ndA noNd) 34)
  have h0 := Lib.hid (h.below g0)
  replace g0 := Lib.hid g0
  clear h
  go_enter Try.func39, Try.ntmps39
  go_wp2
  go_loopw [7, 10] (fun _ v10 wr => ∃ k : Nat, k ≤ l.length ∧ v10 = .int .i64 (k : Int) ∧ Hid ((∀ x ∈ l.take k, x.p ≠ p) ∧ NR wr w.heap.size A l ∧ Blk wr w.heap.size 34 (ndA noNd) ∧ Gr w wr)) (fun _ v10 _ => l.length - (intOf v10).toNat)
  case atStart => exact ⟨0, by omega, rfl, Lib.hid ⟨by simp, h0.out, b0.out, g0.out⟩⟩
  case round =>
    clear h0 b0 g0
    obtain ⟨k, hk, rfl, hst⟩ := hrel
    obtain ⟨hq, h, bz, gg⟩ := hst.out
    clear hst
    have hws := bz.lt
    by_cases hkl : k < l.length
    · have ij : (k : Int) < (l.length : Int) := by omega
      have kw : IntKind.i64.wrap ((k : Int) + 1) = (k : Int) + 1 := IntWalk.i64_in _ (by omega)
      obtain ⟨ad, rfl, hlt, e0, e1, e2, e3, e4⟩ := h.at_ hkl
      have bn := Lib.hid (Blk.new wr 34 (ndA noNd))
      have gA := (Gr.refl wr).alloc (.cells (ndA noNd) 34)
      have bz2 := Lib.hid (blk_more bz gA)
      have h2 := Lib.hid (h.below (gA.mono (Nat.le_of_lt hws)))
      have g2 := Lib.hid (Gr.trans gg gA)
      clear h bz gg gA
      have hnx : l[k].p ≠ p → ∀ x ∈ l.take (k + 1), x.p ≠ p := fun e2 x hx => by
        rw [List.take_succ_eq_append_getElem hkl] at hx
        rcases List.mem_append.1 hx with hx | hx
        · exact hq x hx
        · obtain rfl : x = l[k] := by simpa using hx
          exact e2
      by_cases hp : l[k].p = p
      · have hpb : (l[k].p == p) = true := by simpa using hp
        have hre : r = some l[k] := by rw [← hr.out]; exact find_here hkl hp hq
        replace hre := Lib.hid hre
        clear hp hnx hq hr
        go_wp2_with (first
          | ((with_reducible refine wpList_isStore 34 (.tmp 7) (.tmp 13) rfl ?_); refine wpList_store_blk rfl 34 (.tmp 7) (.tmp 13) rfl wr.heap.size (ndA l[k]) rfl rfl 34 (ndA noNd) bn.out (nodeInfo _ _ _ _ _) rfl (by simp [Value.oneCell']) ?_; intro w9 n9 k9 z9; have y0 := n9.cell 0; have y1 := n9.cell 1; have y2 := n9.cell 2; have y3 := n9.cell 3; have y4 := n9.cell 4; have bz9 := Lib.hid (k9.blk bz2.out (by omega)); have h9 := Lib.hid (h2.out.below (Below.mono (Kb.below k9 (by rw [World.size_alloc]; omega)) (by omega))); have g9 := Lib.hid (Below.trans g2.out (Below.mono (Kb.below k9 (by rw [World.size_alloc]; omega)) (by omega))); clear n9 k9 z9 e0 e1 e2 e3 e4 bn bz2 h2 g2)
          | ((with_reducible refine wpList_isStore 34 (.tmp 4) (.tmp 18) rfl ?_); refine wpList_store_blk rfl 34 (.tmp 4) (.tmp 18) rfl w.heap.size (ndA l[k]) rfl rfl 34 (ndA noNd) bz9.out (nodeInfo _ _ _ _ _) rfl (by simp [Value.oneCell']) ?_; intro w8 n8' k8 z8; have g8 := Lib.hid (Below.trans g9.out (Kb.below k8 (Nat.le_of_lt bz9.out.lt))); replace n8' := Lib.hid n8'; clear y0 y1 y2 y3 y4 k8 z8 g9 h9 bz9))
        have hre2 := hre.out
        subst hre2
        exact bodyPost_ret (results_cell_one Try.results39 _ _ w.heap.size 34 _ (0, 0) _ rfl n8'.out Try.underlying34 rfl (nodeInfo _ _ _ _ _)) rfl ⟨rfl, g8.out⟩
      · have hpb : (l[k].p == p) = false := by simpa using hp
        replace hnx := Lib.hid (hnx hp)
        clear hp hq
        go_wp2_with (first
          | ((with_reducible refine wpList_isStore 34 (.tmp 7) (.tmp 13) rfl ?_); refine wpList_store_blk rfl 34 (.tmp 7) (.tmp 13) rfl wr.heap.size (ndA l[k]) rfl rfl 34 (ndA noNd) bn.out (nodeInfo _ _ _ _ _) rfl (by simp [Value.oneCell']) ?_; intro w9 n9 k9 z9; have y0 := n9.cell 0; have y1 := n9.cell 1; have y2 := n9.cell 2; have y3 := n9.cell 3; have y4 := n9.cell 4; have bz9 := Lib.hid (k9.blk bz2.out (by omega)); have h9 := Lib.hid (h2.out.below (Below.mono (Kb.below k9 (by rw [World.size_alloc]; omega)) (by omega))); have g9 := Lib.hid (Below.trans g2.out (Below.mono (Kb.below k9 (by rw [World.size_alloc]; omega)) (by omega))); clear n9 k9 z9 e0 e1 e2 e3 e4 bn bz2 h2 g2))
        exact ⟨⟨k + 1, by omega, by go_num, Lib.hid ⟨hnx.out, h9.out, bz9.out, g9.out⟩⟩, by simp [intOf]; omega⟩
    · obtain rfl : k = l.length := by omega
      rw [List.take_length] at hq
      have hre : r = none := by rw [← hr.out]; exact find_nowhere hq
      subst hre
      replace bz := Lib.hid bz
      replace gg := Lib.hid gg
      clear hq hr h
      go_wp2_with (first
        | ((with_reducible refine wpList_isStore 34 (.tmp 4) (.tmp 20) rfl ?_); refine wpList_store_blk rfl 34 (.tmp 4) (.tmp 20) rfl w.heap.size (ndA noNd) rfl rfl 34 (ndA noNd) bz.out (nodeInfo _ _ _ _ _) rfl (by simp [Value.oneCell']) ?_; intro w8 n8' k8 z8; have g8 := Lib.hid (Below.trans gg.out (Kb.below k8 (Nat.le_of_lt bz.out.lt))); replace n8' := Lib.hid n8'; clear k8 z8 gg bz))
      exact bodyPost_ret (results_cell_one Try.results39 _ _ w.heap.size 34 _ (0, 0) _ rfl n8'.out Try.underlying34 rfl (nodeInfo _ _ _ _ _)) rfl ⟨rfl, g8.out⟩
end Tr
end Go.Proofs.Yteadcblmomngpaa
namespace Go.Proofs.Yteadcblmomngpaa
open Go Go.RowKit Go.Shelf W Pth
attribute [local go_sem] Oper.semAt_some
namespace Tr
theorem wpListIn_store_blk {F : Fence} {nF : Nat} {P : Program} {ops : Array Oper} {rest : List Oper} {o : Oper} {a : Act} {w : World} {Q : Exit → Act → World → Prop} (hgd : o.guard = none) (ty : TypeId) (x y : Operand) (ho : o.op = .store ty x y)
    (g : Nat) (cells : Array Value) (hx : a.eval x = .pointer (some ⟨g, 0, none⟩)) (hy : a.eval y = .agg cells)
    (t : TypeId) (old : Array Value) (hg : Blk w g t old) (hi : (P.info? ty).map (·.size) = some cells.size)
    (hold : old.size = cells.size) (h1 : cells.all (·.oneCell') = true)
    (h : ∀ w', Blk w' g t cells → Kb g w w' → w'.heap.size = w.heap.size → wpListIn F nF P ops Q rest (a.put o.dst undef) w') : wpListIn F nF P ops Q (o :: rest) a w := by
  refine wpListIn_plain hgd fun K' hK' => ?_
  unfold Oper.wpIn
  refine ⟨by simp [Oper.about, ho], ?_⟩
  rw [Oper.semAt_plain F _ _ (by rw [ho]; intro c hc'; cases hc')]
  have hrun : (execOp a.eval o).run P w = .ok .skip (w.setRow g cells) := by
    unfold execOp
    simp only [ho, hx, hy]
    have := run_storeVar_row (P := P) w g t ty old cells hg hi hold h1
    simp only [Instr.storeAt, Instr.sureAddr, Sem.run_bind, Sem.run_pure, Result.andThen_ok, this]
  rw [hrun]
  exact hK' _ _ (h _ (setRow_heap w g old cells t (0, 0) hg) ⟨rfl, rfl, rfl, by simp, fun k _ hk => setRow_other w g k cells (fun e => hk (by rw [e]))⟩ (by simp))
theorem wpListIn_isStore {F : Fence} {nF : Nat} {P : Program} {w : World} {ops : Array Oper} {rest : List Oper} {o : Oper} {a : Act} {Q : Exit → Act → World → Prop} (T : TypeId) (x y : Operand)
    (ho : o.op = .store T x y) (h : wpListIn F nF P ops Q (o :: rest) a w) : wpListIn F nF P ops Q (o :: rest) a w := h
theorem kids_split (l : List Nd) (p : List UInt8) (k : Nat) : kids (l.take k) p ++ kids (l.drop k) p = kids l p := by
  unfold kids
  rw [← List.filter_append, List.take_append_drop]
set_option maxRecDepth 100000 in
set_option maxHeartbeats 4000000 in
theorem kids1_in (m : Nat) (hm : 1 ≤ m) (lp a b g n₀ : Nat) (A : Option Addr) (c : Nat) (l : List Nd) (p : List UInt8) (hf : Fit l) (ha : a < n₀) (hb : b < n₀) (hag : a ≠ g) (hbg : b ≠ g) (B : Nat) (hB : B ≤ n₀) (hBg : B ≤ g)
    (J Jx : List Nd → World → Prop) (W : World) (hn₀ : n₀ ≤ W.heap.size) (hJ : Bears b J)
    (hY : ∀ pre x W1, J pre W1 → pre.length < (kids l p).length → YieldAt Fence.wide (m - 1) Try.prog lp #[nV x] W1 fun e W' =>
      (e = .returned (.bool true) ∧ J (pre ++ [x]) W' ∧ Ke g n₀ W1 W') ∨ (e = .returned (.bool false) ∧ Jx (pre ++ [x]) W'))
    (a0 : Blk W a 22 #[.slice A l.length c]) (b0 : Blk W b 9 #[str p]) (hnr : NR W B A l) (hJ0 : J [] W) :
    CallsIn Fence.wide m Try.prog 60 #[.func (.yield lp) #[] #[], .pointer (some ⟨a, 0, none⟩), .pointer (some ⟨b, 0, none⟩)] W fun e W' => (∃ v, e = .returned v) ∧
      ((∃ ys, ys = kids l p ∧ J ys W') ∨ (∃ pre, (∃ r, pre ++ r = kids l p) ∧ Jx pre W')) := by
  have hl1 := hf.1
  have hYh := Lib.hid hY
  have hJh := Lib.hid hJ
  have c0 := a0.cell 0
  have hblk := fun wr (h : Ke g n₀ W wr) => (show Blk wr b 9 #[str p] from (h.block b hb hbg).trans b0)
  have hnr2 := fun wr (h : Ke g n₀ W wr) => (NR.below hnr (h.below hB hBg))
  obtain ⟨Z, hZ⟩ : ∃ Z, kids l p = Z := ⟨_, rfl⟩
  have hsp := kids_split l p
  rw [hZ] at hYh hsp ⊢
  have hpar := Lib.hid (fun k (hk : k < l.length) w => parent_any l[k].p w (by have := (hf.2 _ (List.getElem_mem hk)).1; omega))
  replace hblk := Lib.hid hblk
  replace hnr2 := Lib.hid hnr2
  replace hsp := Lib.hid hsp
  replace hZ := Lib.hid hZ
  clear hY hJ b0 hnr a0
  refine callsIn_of_wp Try.func60 rfl trivial ?_ rfl
  simp only [Try.ntmps60, List.size_toArray, List.length_cons, List.length_nil, Nat.reduceAdd, Nat.reduceSub, Array.replicate_succ, Array.replicate_zero, List.push_toArray, List.append_toArray, List.nil_append, List.cons_append]
  gi_wp2
  gi_loopw [5, 6, 7, 10] (fun _ _ _ v10 wr => ∃ k : Nat, k ≤ l.length ∧ v10 = .int .i64 (k : Int) ∧ J (kids (l.take k) p) wr ∧ Ke g n₀ W wr) (fun _ _ _ v10 _ => l.length - (intOf v10).toNat)
  case atStart => exact ⟨0, by omega, rfl, by simpa [kids] using hJ0, Ke.refl _ _ _⟩
  case round =>
    clear hJ0 c0
    obtain ⟨k, hk, rfl, hJs, hke⟩ := hrel
    by_cases hkl : k < l.length
    · have ij : (k : Int) < (l.length : Int) := by omega
      have kw : IntKind.i64.wrap ((k : Int) + 1) = (k : Int) + 1 := IntWalk.i64_in _ (by omega)
      obtain ⟨ad, rfl, hlt, e0, e1, e2, e3, e4⟩ := NR.at_ (hnr2.out wr hke) hkl
      have hpa := hpar.out k hkl
      have hks := kids_take l p hkl
      obtain ⟨x, hx⟩ : ∃ x, l[k] = x := ⟨_, rfl⟩
      rw [hx] at e0 e1 e2 e3 e4 hpa hks
      have hws : n₀ ≤ wr.heap.size := Nat.le_trans hn₀ hke.size
      have bn := Lib.hid (Blk.new wr 34 (ndA noNd))
      replace hpa := Lib.hid hpa
      clear hlt hx
      gi_wp2_with (first
        | ((with_reducible refine wpListIn_isStore 34 (.tmp 5) (.tmp 13) rfl ?_); refine wpListIn_store_blk rfl 34 (.tmp 5) (.tmp 13) rfl wr.heap.size (ndA x) rfl rfl 34 (ndA noNd) bn.out (nodeInfo _ _ _ _ _) rfl (by simp [Value.oneCell']) ?_; intro w9 n9 k9 z9; have y0 := n9.cell 0; have g9 := Lib.hid (Kb.new k9); replace n9 := Lib.hid n9; clear k9 z9 bn e0 e1 e2 e3 e4)
        | (gi_at_call 43; fail))
      refine ⟨trivial, ?_⟩
      refine (callsIn_wide.2 (hpa.out w9)).mono ?_
      rintro e w10 ⟨rfl, g10⟩
      have G10 := Gr.trans g9.out g10
      have J10 := hJh.out _ _ _ hJs (Kb.of_gr G10)
      have K10 := hke.trans (Ke.of_gr (g := g) (n₀ := n₀) G10 hws)
      have b10 := (hblk.out _ K10).cell 0
      have n10 := blk_more n9.out g10
      have y0' := n10.cell 0
      have y1' := n10.cell 1
      have y2' := n10.cell 2
      have y3' := n10.cell 3
      have y4' := n10.cell 4
      clear hpa g10 n9 y0 g9 G10 n10 hJs hke
      replace J10 := Lib.hid J10
      replace K10 := Lib.hid K10
      cases hp : parent x.p with
      | none =>
        rw [hp, if_neg (by simp), List.append_nil] at hks
        have hpv : parentV none = .tuple #[.string ⟨#[]⟩, .bool false] := rfl
        rw [hpv]
        replace hks := Lib.hid hks
        clear hp hpv
        gi_wp2
        refine ⟨fun f h => (by cases h), ?_⟩
        gi_wp2
        exact ⟨⟨k + 1, by omega, by go_num, by rw [hks.out]; exact J10.out, K10.out⟩, by simp [intOf]; omega⟩
      | some q =>
        have hpv : parentV (some q) = .tuple #[str q, .bool true] := rfl
        rw [hpv]
        by_cases hqp : q = p
        · subst hqp
          have hqb : (q == q) = true := by simp
          rw [hp, if_pos rfl] at hks
          have hlen : (kids (l.take k) q).length < Z.length := by
            have h1 := hsp.out (k + 1)
            rw [hks] at h1
            rw [← h1]
            simp
          obtain ⟨fn, tmps, assign, body, hy, hR⟩ := hYh.out _ x w10 J10.out hlen
          have hR := Lib.hid hR
          have hsk := Lib.hid (hsp.out (k + 1))
          replace hks := Lib.hid hks
          clear hp hpv hlen
          gi_wp2
          refine hR.out.mono ?_
          rintro e W3 (⟨rfl, hJ3, hk3⟩ | ⟨rfl, hJx3⟩)
          · have K3 := Lib.hid (K10.out.trans hk3)
            replace hJ3 := Lib.hid hJ3
            clear hk3 J10 K10 b10 y0' y1' y2' y3' y4' hR
            gi_wp2
            exact ⟨⟨k + 1, by omega, by go_num, by rw [hks.out]; exact hJ3.out, K3.out⟩, by simp [intOf]; omega⟩
          · replace hJx3 := Lib.hid hJx3
            clear J10 K10 b10 y0' y1' y2' y3' y4' hR
            gi_wp2
            refine bodyPost_ret (results_none rfl _ _ _) rfl ?_
            exact ⟨⟨_, rfl⟩, .inr ⟨_, ⟨_, by rw [← hks.out]; exact hsk.out⟩, hJx3.out⟩⟩
        · have hqb : (q == p) = false := by simpa using hqp
          rw [hp, if_neg (fun h => hqp (Option.some.inj h)), List.append_nil] at hks
          replace hks := Lib.hid hks
          clear hp hpv hqp
          gi_wp2
          refine ⟨fun f h => (by cases h), ?_⟩
          gi_wp2
          exact ⟨⟨k + 1, by omega, by go_num, by rw [hks.out]; exact J10.out, K10.out⟩, by simp [intOf]; omega⟩
    · obtain rfl : k = l.length := by omega
      rw [List.take_length, hZ.out] at hJs
      replace hJs := Lib.hid hJs
      clear hYh hpar hblk hnr2
      gi_wp2
      go_end0
      exact ⟨⟨_, rfl⟩, .inl ⟨_, rfl, hJs.out⟩⟩
/-- The iterator's contract. -/
theorem kids_seq (m : Nat) (hm : 1 ≤ m) (a b g n₀ : Nat) (A : Option Addr) (c : Nat) (l : List Nd) (p : List UInt8) (hf : Fit l) (ha : a < n₀) (hb : b < n₀) (hag : a ≠ g) (hbg : b ≠ g) (B : Nat) (hB : B ≤ n₀) (hBg : B ≤ g) (W : World) (hn₀ : n₀ ≤ W.heap.size)
    (a0 : Blk W a 22 #[.slice A l.length c]) (b0 : Blk W b 9 #[str p]) (hnr : NR W B A l) :
    SeqB Fence.wide m Try.prog 60 #[.pointer (some ⟨a, 0, none⟩), .pointer (some ⟨b, 0, none⟩)] (fun x : Nd => #[nV x]) b (Ke g n₀) (fun ys => ys = kids l p) (fun pre => ∃ r, pre ++ r = kids l p) (kids l p).length W :=
  fun lp J Jx hJ _ hY h0 => kids1_in m hm lp a b g n₀ A c l p hf ha hb hag hbg B hB hBg J Jx W hn₀ hJ hY a0 b0 hnr h0
set_option maxRecDepth 100000 in
set_option maxHeartbeats 1000000 in
/-- tree.Kids: two boxes; the function value captures them. -/
theorem treeKids_any (A : Option Addr) (len c : Nat) (p : List UInt8) (w : World) :
    Calls Try.prog 40 #[.slice A len c, str p] w fun e w' =>
      e = .returned (.func (.func 60) #[] #[.pointer (some ⟨w.heap.size, 0, none⟩), .pointer (some ⟨w.heap.size + 1, 0, none⟩)]) ∧ Blk w' w.heap.size 22 #[.slice A len c] ∧ Blk w' (w.heap.size + 1) 9 #[str p] ∧ Gr w w' ∧ w'.heap.size = w.heap.size + 2 := by
  have hmf : ∀ (fn : Fn) (first cap : Array Value) (w : World), (Instr.makeFunc fn first cap).run Try.prog w = .ok (.func fn first cap) w := fun _ _ _ _ => rfl
  have h1 := Lib.hid ((Blk.new w 22 #[.slice A len c]).alloc (.cells #[str p] 9))
  have h2 := Blk.new (w.alloc (.cells #[.slice A len c] 22)) 9 #[str p]
  rw [World.size_alloc] at h2
  replace h2 := Lib.hid h2
  go_enter Try.func40, Try.ntmps40
  go_wp2
  go_ret
  exact ⟨rfl, h1.out, h2.out, ((Gr.refl w).alloc _).alloc _, by simp⟩
end Tr
end Go.Proofs.Yteadcblmomngpaa
namespace Go.Proofs.Yteadcblmomngpaa
open Go Go.RowKit Go.Shelf W Pth
namespace Tr
open Sm
theorem execAppend {P : Program} {ρ : Operand → Value} {w w9 : World} {o : Oper} {v u r : Value} (s x : Operand) (T : TypeId) (ho : o.op = .call { callee := .builtin .append, args := #[s, x], argTypes := #[T, T] }) (hs : ρ s = v) (hx : ρ x = u)
    (hrun : (Builtin.append_ #[T, T] o.type #[v, u]).run P w = .ok r w9) : (execOp ρ o).run P w = .ok (.value r) w9 := by
  unfold execOp
  simp only [ho, resolve, invoke, builtin, Sem.run_bind, Sem.run_pure, Result.andThen_ok, List.map_toArray, List.map_cons, List.map_nil, hs, hx, hrun]
theorem wpList_mapSet {P : Program} {ops : Array Oper} {rest : List Oper} {o : Oper} {a : Act} {w w' : World} {Q : Exit → Act → World → Prop} (hg : o.guard = none) (m x v : Operand) (t : TypeId) (hop : o.op = .mapUpdate t m x v)
    {M X V : Value} (hm : a.eval m = M) (hx : a.eval x = X) (hv : a.eval v = V) (hrun : (Instr.mapUpdate t M X V).run P w = .ok () w') (hK : wpList P ops Q rest (a.put o.dst undef) w') : wpList P ops Q (o :: rest) a w := by
  refine wpList_plain hg fun K' hK' => ?_
  unfold Oper.wp
  simp [execOp, hop, hm, hx, hv, hrun, Result.andThen]
  exact hK' _ _ hK
/-- What open has made of the first k nodes. -/
structure OpS (w : World) (A : Option Addr) (l : List Nd) (k : Nat) (W : World) : Prop where
  pb : Blk W (w.heap.size + 1 + 1) 75 #[.map (some w.heap.size), .map (some (w.heap.size + 1))]
  grp : Grp W w.heap.size (l.take k)
  met : SM W (w.heap.size + 1) 0 (fun _ => none)
  nr : NR W w.heap.size A l
  gr : Gr w W
theorem OpS.on {w W W' : World} {A : Option Addr} {l : List Nd} {k : Nat} (h : OpS w A l k W) (g : Gr W W') : OpS w A l k W' :=
  ⟨blk_more h.pb g, h.grp.gr g, h.met.ext (g.block _ h.met.lt), h.nr.below (g.mono h.gr.size), Gr.trans h.gr g⟩
theorem OpS.lt {w W : World} {A : Option Addr} {l : List Nd} {k : Nat} (h : OpS w A l k W) : w.heap.size + 1 + 1 < W.heap.size := h.pb.lt
theorem OpS.skip {w W : World} {A : Option Addr} {l : List Nd} {k : Nat} (h : OpS w A l k W) (hk : k < l.length) (hn : parent l[k].p = none) : OpS w A l (k + 1) W :=
  ⟨h.pb, by rw [List.take_succ_eq_append_getElem hk]; exact h.grp.skip hn, h.met, h.nr, h.gr⟩
theorem grown_to {w w9 w2 : World} {r : Option Nat} (h : w.grownBy w9 r) (k : Gr w9 w2) : w.grownBy w2 r :=
  ⟨k.os.trans (World.grownBy.os h), k.tape.trans (World.grownBy.tape h), k.output.trans (World.grownBy.output h), Nat.le_trans (World.grownBy.size h) k.size, fun i hi hn => (k.block i (Nat.lt_of_lt_of_le hi (World.grownBy.size h))).trans (World.grownBy.block h i hi hn)⟩
theorem OpS.put {w W : World} {A : Option Addr} {l : List Nd} {k : Nat} (h : OpS w A l k W) (hk : k < l.length) {q : List UInt8} (hn : parent l[k].p = some q) (hq : q.length ≤ 1000000) (hl : l.length ≤ 1000000) :
    ∃ V, ON W (w.heap.size + 3) V (kids (l.take k) q) ∧ (∀ w', Gr W w' → (Instr.lookup 72 (.map (some w.heap.size)) (str q) false).run Try.prog w' = .ok V w') ∧
    ∀ w1 w2, Gr W w1 → w1.grownBy w2 V.ownBlock → Blk w2 (w.heap.size + 1 + 1) 75 #[.map (some w.heap.size), .map (some (w.heap.size + 1))] ∧
      ∀ w3 v', Gr w2 w3 → ON w2 (w.heap.size + 3) v' (kids (l.take k) q ++ [l[k]]) → (v'.ownBlock = V.ownBlock ∨ v'.ownBlock = some w1.heap.size) →
      ∃ w4, (Instr.mapUpdate 72 (.map (some w.heap.size)) (str q) v').run Try.prog w3 = .ok () w4 ∧ OpS w A l (k + 1) w4 := by
  obtain ⟨V, o1, hlook, hback⟩ := h.grp.look l[k] hn (by unfold maxLen; omega) (by rw [List.length_take]; unfold maxLen; omega)
  have hV : ∀ i, i < w.heap.size + 3 → V.ownBlock ≠ some i := fun i hi e => by
    have := (World.ownsRow.lt o1 i e).1
    omega
  refine ⟨V, o1, hlook, fun w1 w2 g1 g2 => ⟨(blk_more h.pb g1).grown g2 (fun e => hV (w.heap.size + 1 + 1) (by omega) e.symm), fun w3 v' g3 ho hb => ?_⟩⟩
  obtain ⟨w4, hrun, hg, hkk, hz⟩ := hback w1 w2 w3 v' g1 g2 g3 ho hb
  have hV2 : ∀ i, i < w.heap.size + 3 → some i ≠ V.ownBlock := fun i hi e => hV i hi e.symm
  have bl : Below w.heap.size W w4 := by
    have b1 : Below w.heap.size W w1 := g1.mono h.gr.size
    have b2 : Below w.heap.size w1 w2 := ⟨World.grownBy.os g2, World.grownBy.tape g2, World.grownBy.output g2, World.grownBy.size g2, fun i hi => World.grownBy.block g2 i (by have := g1.size; have := h.gr.size; omega) (hV2 i (by omega))⟩
    have b3 : Below w.heap.size w2 w3 := g3.mono (by have := g1.size; have := h.gr.size; have := World.grownBy.size g2; omega)
    have b4 : Below w.heap.size w3 w4 := Kb.below hkk (by have := g1.size; have := h.gr.size; have := World.grownBy.size g2; have := g3.size; omega)
    exact ((b1.trans b2).trans b3).trans b4
  refine ⟨w4, hrun, ⟨?_, by rw [List.take_succ_eq_append_getElem hk]; exact hg, ?_, h.nr.below bl, Below.trans h.gr bl⟩⟩
  · exact Kb.blk hkk (blk_more ((blk_more h.pb g1).grown g2 (hV2 (w.heap.size + 1 + 1) (by omega))) g3) (by omega)
  · have m1 := h.met.ext (g1.block _ h.met.lt)
    have m2 := m1.kept g2 (hV2 _ (by omega))
    have m3 := m2.ext (g3.block _ m2.lt)
    exact m3.kept hkk (fun e => by injection e with e; omega)
/-- A new printer, as an answer. -/
def OutP (w : World) (t : List Nd) : Ending → World → Prop := fun e w' => e = .returned (.pointer (some ⟨w.heap.size + 1 + 1, 0, none⟩)) ∧ Prn w' w.heap.size t ∧ Gr w w'
set_option maxRecDepth 100000 in
set_option maxHeartbeats 8000000 in
theorem open_any (A : Option Addr) (c : Nat) (l : List Nd) (hf : Fit l) (w : World) (h : NR w w.heap.size A l) :
    Calls Try.prog 27 #[.slice A l.length c] w (OutP w l) := by
  have hl1 := hf.1
  have hmm := @run_makeMap Try.prog
  have hS : OpS w A l 0 (((w.alloc (.map #[] 0)).alloc (.map #[] 0)).alloc (.cells #[.map (some w.heap.size), .map (some (w.heap.size + 1))] 75)) := by
    have s1 := SM.made w
    have s2 := SM.made (w.alloc (.map #[] 0))
    rw [World.size_alloc] at s2
    have b3 := Blk.new ((w.alloc (.map #[] 0)).alloc (.map #[] 0)) 75 #[.map (some w.heap.size), .map (some (w.heap.size + 1))]
    rw [World.size_alloc, World.size_alloc] at b3
    have g1 : Gr (w.alloc (.map #[] 0)) ((w.alloc (.map #[] 0)).alloc (.map #[] 0)) := (Gr.refl _).alloc _
    have g2 : Gr ((w.alloc (.map #[] 0)).alloc (.map #[] 0)) (((w.alloc (.map #[] 0)).alloc (.map #[] 0)).alloc (.cells #[.map (some w.heap.size), .map (some (w.heap.size + 1))] 75)) := (Gr.refl _).alloc _
    have g0 : Gr w (w.alloc (.map #[] 0)) := (Gr.refl _).alloc _
    refine ⟨b3, ⟨fun _ => none, ((s1.ext (g1.block _ s1.lt)).ext (g2.block _ (by simp; omega))).mono (Nat.zero_le _), fun p => rfl, fun p q v u g hv => by cases hv⟩, s2.ext (g2.block _ s2.lt), h.below (Gr.trans (Gr.trans g0 g1) g2), Gr.trans (Gr.trans g0 g1) g2⟩
  replace hS := Lib.hid hS
  clear h
  go_enter Try.func27, Try.ntmps27
  go_wp2
  go_loopw [5, 6, 7, 14] (fun _ _ _ v14 wr => ∃ k : Nat, k ≤ l.length ∧ v14 = .int .i64 (k : Int) ∧ Hid (OpS w A l k wr)) (fun _ _ _ v14 _ => l.length - (intOf v14).toNat)
  case atStart => exact ⟨0, by omega, rfl, hS⟩
  case round =>
    clear hS hmm
    obtain ⟨k, hk, rfl, hst⟩ := hrel
    by_cases hkl : k < l.length
    · have ij : (k : Int) < (l.length : Int) := by omega
      have kw : IntKind.i64.wrap ((k : Int) + 1) = (k : Int) + 1 := IntWalk.i64_in _ (by omega)
      have hpl := (hf.2 _ (List.getElem_mem hkl)).1
      obtain ⟨ad, rfl, hlt, e0, e1, e2, e3, e4⟩ := hst.out.nr.at_ hkl
      have bn := Lib.hid (Blk.new wr 34 (ndA noNd))
      have hpar := Lib.hid (fun w => parent_any l[k].p w (by omega))
      obtain ⟨nk, hnk⟩ : ∃ nk, l[k] = nk := ⟨_, rfl⟩
      rw [hnk] at e0 e1 e2 e3 e4 hpar hpl
      go_wp2_with (first
        | ((with_reducible refine wpList_isStore 34 (.tmp 5) (.tmp 17) rfl ?_); refine wpList_store_blk rfl 34 (.tmp 5) (.tmp 17) rfl wr.heap.size (ndA nk) rfl rfl 34 (ndA noNd) bn.out (nodeInfo _ _ _ _ _) rfl (by simp [Value.oneCell']) ?_; intro w9 n9 k9 z9; have y0 := n9.cell 0; have st9 := Lib.hid (hst.out.on (Kb.new k9)); replace n9 := Lib.hid n9; clear k9 z9 bn e0 e1 e2 e3 e4 hst)
        | (go_at_call 43; fail))
      go_at_call 43
      refine (hpar.out _).mono ?_
      rintro e w10 ⟨rfl, g10⟩
      have st10 := Lib.hid (st9.out.on g10)
      have n10 := Lib.hid (blk_more n9.out g10)
      clear hpar g10 st9 n9 y0
      cases hp : parent nk.p with
      | none =>
        have stN := Lib.hid (st10.out.skip hkl (by rw [hnk]; exact hp))
        have hpv : parentV none = .tuple #[.string ⟨#[]⟩, .bool false] := rfl
        rw [hpv]
        clear st10 n10 hp hpv
        go_wp2
        exact ⟨⟨k + 1, by omega, by go_num, stN⟩, by simp [intOf]; omega⟩
      | some q =>
        have hql := parent_len hp
        obtain ⟨V, oV, hlook, hput⟩ := st10.out.put hkl (q := q) (by rw [hnk]; exact hp) (by omega) (by omega)
        rw [hnk] at hput
        have hkl9 := kids_len (l.take k) q
        rw [List.length_take] at hkl9
        have pb := Lib.hid st10.out.pb
        have hlt10 := st10.out.lt
        have hbs : w.heap.size + 3 ≤ w10.heap.size := by omega
        have hpv : parentV (some q) = .tuple #[str q, .bool true] := rfl
        rw [hpv]
        replace oV := Lib.hid oV
        replace hlook := Lib.hid hlook
        replace hput := Lib.hid hput
        clear hp hpv hlt
        go_wp2
        refine region_grow rfl (by kernel_rfl) ?_
        refine GW.mv rfl trivial (.inl rfl) (kn0 (t := 3) (c := .pointer (some ⟨w.heap.size + 1 + 1, 0, none⟩)) (by kernel_rfl) rfl) (eqv_lasts _) ?_
        refine GW.p1 (.pointer (some ⟨w.heap.size + 1 + 1, 0, none⟩)) rfl trivial (kn (t := 25) (j := 0) (by kernel_rfl)) (fun ρ w' hρ hg => by simp [execOp, hρ, go_sem]) ?_
        refine GW.p1 (.pointer (some ⟨w.heap.size + 1 + 1, 0, none⟩)) rfl trivial (kn (t := 26) (j := 1) (by kernel_rfl)) (fun ρ w' hρ hg => by simp [execOp, hρ, go_sem]) ?_
        refine GW.p1 (.map (some w.heap.size)) rfl trivial (kn (t := 27) (j := 2) (by kernel_rfl)) (fun ρ w' hρ hg => by simp [execOp, hρ, go_sem, (hg.cell (p := ⟨w.heap.size + 1 + 1, 0, none⟩) pb.out.lt).trans (pb.out.cell 0)]) ?_
        refine GW.mv rfl trivial (.inl rfl) (kn0 (t := 6) (c := str q) (by kernel_rfl) rfl) (eqv_lasts _) ?_
        refine GW.mv rfl trivial (.inl rfl) (kn0 (t := 3) (c := .pointer (some ⟨w.heap.size + 1 + 1, 0, none⟩)) (by kernel_rfl) rfl) (eqv_lasts _) ?_
        refine GW.p1 (.pointer (some ⟨w.heap.size + 1 + 1, 0, none⟩)) rfl trivial (kn (t := 30) (j := 5) (by kernel_rfl)) (fun ρ w' hρ hg => by simp [execOp, hρ, go_sem]) ?_
        refine GW.p1 (.pointer (some ⟨w.heap.size + 1 + 1, 0, none⟩)) rfl trivial (kn (t := 31) (j := 6) (by kernel_rfl)) (fun ρ w' hρ hg => by simp [execOp, hρ, go_sem]) ?_
        refine GW.p1 (.map (some w.heap.size)) rfl trivial (kn (t := 32) (j := 7) (by kernel_rfl)) (fun ρ w' hρ hg => by simp [execOp, hρ, go_sem, (hg.cell (p := ⟨w.heap.size + 1 + 1, 0, none⟩) pb.out.lt).trans (pb.out.cell 0)]) ?_
        refine GW.mv rfl trivial (.inl rfl) (kn0 (t := 6) (c := str q) (by kernel_rfl) rfl) (eqv_lasts _) ?_
        refine GW.p2 (V) rfl trivial (kn (t := 33) (j := 8) (by kernel_rfl)) (kn (t := 34) (j := 9) (by kernel_rfl)) (fun ρ w' h1 h2 hg => by show ((Instr.lookup 72 (ρ (.tmp 33)) (ρ (.tmp 34)) false >>= fun v => pure (Next.value v)) : Sem Next).run Try.prog w' = _; rw [h1, h2, Sem.run_bind, hlook.out w' hg]; rfl) ?_
        refine GW.p1 (.agg #[str nk.p, .int .i64 nk.kind, .int .i64 nk.mode, .int .i64 nk.time, str nk.data]) rfl trivial (kn0 (t := 5) (c := .pointer (some ⟨wr.heap.size, 0, none⟩)) (by kernel_rfl) rfl) (fun ρ w' hρ hg => by simp [execOp, hρ, go_sem, (hg.cell (p := ⟨wr.heap.size, 0, none⟩) n10.out.lt).trans (n10.out.cell 0), (hg.cell (p := ⟨wr.heap.size, 1, none⟩) n10.out.lt).trans (n10.out.cell 1), (hg.cell (p := ⟨wr.heap.size, 2, none⟩) n10.out.lt).trans (n10.out.cell 2), (hg.cell (p := ⟨wr.heap.size, 3, none⟩) n10.out.lt).trans (n10.out.cell 3), (hg.cell (p := ⟨wr.heap.size, 4, none⟩) n10.out.lt).trans (n10.out.cell 4)]) ?_
        refine GW.row1 (E := 34) #[str nk.p, .int .i64 nk.kind, .int .i64 nk.mode, .int .i64 nk.time, str nk.data] rfl rfl trivial rfl (kn (t := 36) (j := 11) (by kernel_rfl)) (fun w => by kernel_rfl) ?_
        refine GW.lateE (m := 13) [0, 1, 2, 3, 4] rfl rfl rfl (by kernel_rfl) (by kernel_rfl) (by kernel_rfl) (fun i hi => ?_) (by kernel_rfl) (fun a8 w8 hg8 hkn => ?_)
        · match i, hi with
          | 0, _ => exact ⟨_, rfl⟩
          | 1, _ => exact ⟨_, rfl⟩
          | 2, _ => exact ⟨_, rfl⟩
          | 3, _ => exact ⟨_, rfl⟩
          | 4, _ => exact ⟨_, rfl⟩
          | n + 5, hi => exact absurd hi (by simp [inL])
        obtain ⟨A8, c8, hu, hr8⟩ := (kn (t := 37) (j := 12) (by kernel_rfl)) a8 w8 hg8 hkn
        have hs8 : a8.eval (.tmp 35) = V := (kn (t := 35) (j := 10) (by kernel_rfl)) a8 w8 hg8 hkn
        have oA : OR 34 5 w8 (w.heap.size + 3) V (kids (l.take k) q).length (ncs (kids (l.take k) q)) := ON.below oV.out hg8
        obtain ⟨A9, c9, wA, hrun, o9, _, k9, n9⟩ := run_append_rows (P := Try.prog) 22 22 Try.underlying22 nodeRow oA w8.heap.size A8 1 c8 (nc nk) hr8 (by have := ncs_one_cell [nk]; rw [ncs_one] at this; exact this) (by unfold maxLen; omega) (by omega) (Nat.le_trans hbs hg8.size)
        obtain ⟨xA, hput2⟩ := hput.out w8 wA hg8 k9
        replace xA := Lib.hid xA
        refine ⟨.slice A9 ((kids (l.take k) q).length + 1) c9, wA, ?_, fun i o hi hE ho => ?_, fun w9 hg9 => ?_⟩
        · exact execAppend (.tmp 35) (.tmp 37) 22 rfl hs8 hu hrun
        · match i, hi, hE, ho with
          | 0, _, _, ho =>
            obtain rfl := Option.some.inj ho
            exact late_p1 rfl rfl rfl (kn0 (t := 3) (c := .pointer (some ⟨w.heap.size + 1 + 1, 0, none⟩)) (by kernel_rfl) rfl) (fun ρ w' hρ hg => by simp [execOp, hρ, go_sem])
          | 1, _, _, ho =>
            obtain rfl := Option.some.inj ho
            exact late_p1 rfl rfl rfl (kn (t := 25) (j := 0) (by kernel_rfl)) (fun ρ w' hρ hg => by simp [execOp, hρ, go_sem])
          | 2, _, _, ho =>
            obtain rfl := Option.some.inj ho
            exact late_p1 rfl rfl rfl (kn (t := 26) (j := 1) (by kernel_rfl)) (fun ρ w' hρ hg => by simp [execOp, hρ, go_sem])
          | 3, _, _, ho =>
            obtain rfl := Option.some.inj ho
            exact late_p1 rfl rfl rfl (kn (t := 27) (j := 2) (by kernel_rfl)) (fun ρ w' hρ hg => by simp [execOp, hρ, go_sem, (blk_more xA.out hg).cell 0])
          | 4, _, _, ho =>
            obtain rfl := Option.some.inj ho
            exact late_p1 rfl rfl rfl (kn0 (t := 6) (c := str q) (by kernel_rfl) rfl) (fun ρ w' hρ hg => by simp [execOp, hρ, go_sem])
          | n + 5, _, hE, _ => exact absurd hE (by simp [inL])
        rintro v0 - v1 - v2 - v3 h3 v4 h4 v5 - v6 - v7 - v8 - v9 - v10 - v11 - v12 - v13 h13
        obtain rfl : v3 = .map (some w.heap.size) := h3
        obtain rfl : v4 = str q := h4
        obtain rfl : v13 = .slice A9 ((kids (l.take k) q).length + 1) c9 := h13
        simp only [GFin, List.take_succ_cons, List.take_zero, List.drop_succ_cons, List.drop_zero, Act.put, List.setIfInBounds_toArray, List.set_cons_succ, List.set_cons_zero]
        obtain ⟨w4, hrun4, stN⟩ := hput2 w9 (.slice A9 ((kids (l.take k) q).length + 1) c9) hg9 (by
          show OR 34 5 wA (w.heap.size + 3) _ (kids (l.take k) q ++ [nk]).length (ncs (kids (l.take k) q ++ [nk]))
          rw [ncs_append, ncs_one, List.length_append]
          exact o9) n9
        replace stN := Lib.hid stN
        clear hput hput2 o9 k9 n9 xA oA hs8 hu hr8 hrun hlook oV pb st10 n10
        refine wpList_mapSet rfl (.tmp 28) (.tmp 29) (.tmp 38) 72 rfl rfl rfl rfl hrun4 ?_
        clear hrun4
        go_wp2
        exact ⟨⟨k + 1, by omega, by go_num, stN⟩, by simp [intOf]; omega⟩
    · obtain rfl : k = l.length := by omega
      have hfin := hst.out
      obtain ⟨h1, ⟨f, h2, h3, h4⟩, h5, h6, h7⟩ := hfin
      rw [List.take_length] at h2 h3
      have P : Prn wr w.heap.size l := ⟨h1, ⟨f, _, h2, h3⟩, ⟨_, 0, h5, fun p v hv => by cases hv⟩⟩
      replace P := Lib.hid P
      replace h7 := Lib.hid h7
      clear h1 h2 h3 h4 h5 h6 hst f
      go_wp2
      go_ret
      exact ⟨rfl, P.out, h7.out⟩
end Tr
end Go.Proofs.Yteadcblmomngpaa
namespace Go.Proofs.Yteadcblmomngpaa
open Go Go.RowKit W
namespace Mix
/-- A sum as a value. -/
def sumV (s : St) : Value := .agg #[.int .u64 (n64 s.1), .int .u64 (n64 s.2)]
attribute [go_sem] sumV
theorem or_eq {x a b k j : UInt64} (h1 : a = k) (h2 : b = j) : x * a ||| b = x * k ||| j := by rw [h1, h2]
theorem shr_eq (x : UInt64) (m k : Nat) (j : UInt64) (h : m = k) (hj : j.toNat = 2 ^ k) : UInt64.ofInt (n64 x / 2 ^ m) = x / j := by
  subst h
  have e : n64 x / 2 ^ m = ((x.toNat / 2 ^ m : Nat) : Int) := by unfold n64; simp
  rw [e, w_ofNat_u64]
  apply UInt64.toNat_inj.1
  rw [UInt64.toNat_div, hj, UInt64.toNat_ofNat']
  have h1 : x.toNat / 2 ^ m ≤ x.toNat := Nat.div_le_self _ _
  have h2 := x.toNat_lt
  exact Nat.mod_eq_of_lt (Nat.lt_of_le_of_lt h1 h2)
theorem rot29_any (x : UInt64) (w : World) : Calls Try.prog 71 #[.int .u64 (n64 x), .int .i64 29] w fun e w' => e = .returned (.int .u64 (n64 (rots 29 x))) ∧ w = w' := by
  have h := Lib.hid (turn29 x)
  go_enter Try.func71, Try.ntmps71
  go_wp2
  go_ret
  refine ⟨?_, rfl⟩
  rw [← h.out]
  exact congrArg (fun z => Ending.returned (.int .u64 (n64 z))) (or_eq (by decide) (shr_eq x _ 35 _ (by decide) rfl))
theorem rot41_any (x : UInt64) (w : World) : Calls Try.prog 71 #[.int .u64 (n64 x), .int .i64 41] w fun e w' => e = .returned (.int .u64 (n64 (rots 41 x))) ∧ w = w' := by
  have h := Lib.hid (turn41 x)
  go_enter Try.func71, Try.ntmps71
  go_wp2
  go_ret
  refine ⟨?_, rfl⟩
  rw [← h.out]
  exact congrArg (fun z => Ending.returned (.int .u64 (n64 z))) (or_eq (by decide) (shr_eq x _ 23 _ (by decide) rfl))
theorem rot35_any (x : UInt64) (w : World) : Calls Try.prog 71 #[.int .u64 (n64 x), .int .i64 (-29)] w fun e w' => e = .returned (.int .u64 (n64 (rots 35 x))) ∧ w = w' := by
  have h := Lib.hid (turn35 x)
  go_enter Try.func71, Try.ntmps71
  go_wp2
  go_ret
  refine ⟨?_, rfl⟩
  rw [← h.out]
  exact congrArg (fun z => Ending.returned (.int .u64 (n64 z))) (or_eq (by decide) (shr_eq x _ 29 _ (by decide) rfl))
theorem rot23_any (x : UInt64) (w : World) : Calls Try.prog 71 #[.int .u64 (n64 x), .int .i64 (-41)] w fun e w' => e = .returned (.int .u64 (n64 (rots 23 x))) ∧ w = w' := by
  have h := Lib.hid (turn23 x)
  go_enter Try.func71, Try.ntmps71
  go_wp2
  go_ret
  refine ⟨?_, rfl⟩
  rw [← h.out]
  exact congrArg (fun z => Ending.returned (.int .u64 (n64 z))) (or_eq (by decide) (shr_eq x _ 41 _ (by decide) rfl))
theorem turn_any (n : Nat) (x : UInt64) (w : World) (hn : n ≤ 64) : Calls Try.prog 57 #[.int .u64 (n64 x), .int .i64 (n : Int)] w fun e w' => e = .returned (.int .u64 (n64 (rots n x))) ∧ w = w' := by
  go_enter Try.func57, Try.ntmps57
  go_wp2
  go_loop [0, 5] (fun v i => ∃ k : Nat, k ≤ n ∧ v = .int .u64 (n64 (rots k x)) ∧ i = .int .i64 k) (fun _ i => n - (intOf i).toNat)
  case atStart => exact ⟨0, Nat.zero_le _, rfl, rfl⟩
  case round =>
    obtain ⟨k, hk, rfl, rfl⟩ := hrel
    by_cases h : k < n
    · have hm := Lib.hid (show rots (k + 1) x = rots k x * 2 + rots k x / 9223372036854775808 from rfl)
      generalize rots k x = y at *
      go_wp2
      go_round
      case rel => exact ⟨k + 1, by omega, by rw [hm.out], by go_num⟩
      case measure => simp [intOf]; omega
    · have hk' : k = n := by omega
      subst hk'
      go_wp2
      go_ret
      exact ⟨rfl, rfl⟩
theorem start_any (w : World) : Calls Try.prog 70 #[] w fun e w' => e = .returned (sumV start) ∧ Gr w w' := by
  go_enter Try.func70, Try.ntmps70
  go_wp2
  refine bodyPost_ret (v := sumV start) (by simp [results, Try.results70, go_sem]; decide) rfl ⟨rfl, (Gr.refl w).alloc _⟩
set_option maxRecDepth 100000 in
set_option maxHeartbeats 400000 in
theorem sround_any (s : St) (x : UInt64) (w : World) : Calls Try.prog 65 #[sumV s, .int .u64 (n64 x)] w fun e w' => e = .returned (sumV (round s x)) ∧ Gr w w' := by
  have hb0 := (Blk.new w 83 #[.int .u64 (n64 s.1), .int .u64 (n64 s.2)]).alloc (.cells #[.int .u64 0, .int .u64 0] 83)
  have hb1 := Blk.new (w.alloc (.cells #[.int .u64 (n64 s.1), .int .u64 (n64 s.2)] 83)) 83 #[.int .u64 0, .int .u64 0]
  have hg1 : Gr w ((w.alloc (.cells #[.int .u64 (n64 s.1), .int .u64 (n64 s.2)] 83)).alloc (.cells #[.int .u64 0, .int .u64 0] 83)) := ((Gr.refl w).alloc _).alloc _
  obtain ⟨y, hy⟩ : ∃ y, y = rots 29 ((s.1 ^^^ x) * K1) + s.2 := ⟨_, rfl⟩
  obtain ⟨z, hz⟩ : ∃ z, z = rots 41 ((s.2 + x) * K2) ^^^ y := ⟨_, rfl⟩
  rw [show round s x = (y, z) by rw [hz, hy]; rfl]
  replace hy := Lib.hid hy
  replace hz := Lib.hid hz
  go_enter Try.func65, Try.ntmps65
  go_wp2
  rw [World.size_alloc] at hb1
  generalize (w.alloc (.cells #[.int .u64 (n64 s.1), .int .u64 (n64 s.2)] 83)).alloc (.cells #[.int .u64 0, .int .u64 0] 83) = w1 at *
  have hlt : w.heap.size < w1.heap.size := hb0.lt
  have hc0 : w1.cell? ⟨w.heap.size, 0, none⟩ = some (.int .u64 (n64 s.1)) := hb0.cell 0
  have hc1 : w1.cell? ⟨w.heap.size, 1, none⟩ = some (.int .u64 (n64 s.2)) := hb0.cell 1
  refine region_grow (by kernel_rfl) (by kernel_rfl) ?_
  refine GW.p1 (.pointer (some ⟨w.heap.size, 0, none⟩)) rfl trivial (kn0 (t := 2) (c := .pointer (some ⟨w.heap.size, 0, none⟩)) (by kernel_rfl) rfl) (fun ρ w' hρ hg => by simp [execOp, hρ, go_sem]) ?_
  refine GW.ldAt ((n64 (s.1))) rfl trivial rfl Try.underlying28 (kn (t := 5) (j := 0) (by kernel_rfl)) (hc0) (by omega) ?_
  refine GW.mv rfl trivial (.inl rfl) (kn0 (t := 1) (c := .int .u64 (n64 (x))) (by kernel_rfl) rfl) (eqv_lasts _) ?_
  refine GW.bin (.int .u64 (n64 (s.1 ^^^ x))) rfl trivial rfl (kn (t := 6) (j := 1) (by kernel_rfl)) (kn (t := 7) (j := 2) (by kernel_rfl)) (fun w' => by simp [go_sem]) ?_
  refine GW.bin (.int .u64 (n64 ((s.1 ^^^ x) * K1))) rfl trivial rfl (kn (t := 8) (j := 3) (by kernel_rfl)) knc (fun w' => by simp [go_sem]) ?_
  refine GW.call2 (eqv (.int .u64 (n64 (rots 29 ((s.1 ^^^ x) * K1))))) rfl trivial rfl Try.func71 (by kernel_rfl) (by kernel_rfl) (eqv_lasts _) (kn (t := 9) (j := 4) (by kernel_rfl)) knc (fun v u w' hg hv hu => ?_) ?_
  · obtain rfl : v = _ := hv
    obtain rfl : u = _ := hu
    refine (rot29_any _ w').mono ?_
    rintro e w2 ⟨rfl, rfl⟩
    exact ⟨_, rfl, rfl, Gr.refl _⟩
  refine GW.p1 (.pointer (some ⟨w.heap.size, 1, none⟩)) rfl trivial (kn0 (t := 2) (c := .pointer (some ⟨w.heap.size, 0, none⟩)) (by kernel_rfl) rfl) (fun ρ w' hρ hg => by simp [execOp, hρ, go_sem]) ?_
  refine GW.ldAt ((n64 (s.2))) rfl trivial rfl Try.underlying28 (kn (t := 11) (j := 6) (by kernel_rfl)) (hc1) (by omega) ?_
  refine GW.bin (.int .u64 (n64 (rots 29 ((s.1 ^^^ x) * K1) + s.2))) rfl trivial rfl (kn (t := 10) (j := 5) (by kernel_rfl)) (kn (t := 12) (j := 7) (by kernel_rfl)) (fun w' => by simp [go_sem]) ?_
  refine GW.tail (m := 9) (by simp) (by kernel_rfl) (by kernel_rfl) (fun w' hg => ?_)
  intro v0 _ v1 _ v2 _ v3 _ v4 _ v5 _ v6 _ v7 _ v8 h8
  obtain rfl : v8 = (.int .u64 (n64 (rots 29 ((s.1 ^^^ x) * K1) + s.2))) := h8
  simp only [GFin, List.take_succ_cons, List.take_zero, List.drop_succ_cons, List.drop_zero, Act.put, List.setIfInBounds_toArray, List.set_cons_succ, List.set_cons_zero]
  have hg2 : Gr w w' := hg1.trans hg
  have hlt1 : w.heap.size + 1 < w1.heap.size := hb1.lt
  have hd0 := hb0.below hg hlt
  have hd1 := hb1.below hg hlt1
  have c0 := hd0.cell 0
  have f0 := hd0.frozen 0
  rw [← hy.out]
  have he0 : Blk (w'.setCell ⟨w.heap.size, 0, none⟩ (.int .u64 (n64 y))) w.heap.size 83 #[.int .u64 (n64 y), .int .u64 (n64 s.2)] := hd0.set_ 0 _
  have he1 := hd1.far (p := ⟨w.heap.size, 0, none⟩) (by show w.heap.size + 1 ≠ w.heap.size; omega) (.int .u64 (n64 y))
  have hg3 : Gr w (w'.setCell ⟨w.heap.size, 0, none⟩ (.int .u64 (n64 y))) := Below.setCell hg2 (p := ⟨w.heap.size, 0, none⟩) (Nat.le_refl _) _
  clear hg hg1 hg2 hb0 hb1 hd0 hd1
  go_wp2
  generalize w'.setCell ⟨w.heap.size, 0, none⟩ (.int .u64 (n64 y)) = w2 at *
  clear c0 f0 hc0 hc1 hlt hlt1
  have hlt : w.heap.size < w2.heap.size := he0.lt
  have hd0 : w2.cell? ⟨w.heap.size, 0, none⟩ = some (.int .u64 (n64 y)) := he0.cell 0
  have hd1 : w2.cell? ⟨w.heap.size, 1, none⟩ = some (.int .u64 (n64 s.2)) := he0.cell 1
  refine region_grow (by kernel_rfl) (by kernel_rfl) ?_
  refine GW.p1 (.pointer (some ⟨w.heap.size, 1, none⟩)) rfl trivial (kn0 (t := 2) (c := .pointer (some ⟨w.heap.size, 0, none⟩)) (by kernel_rfl) rfl) (fun ρ w' hρ hg => by simp [execOp, hρ, go_sem]) ?_
  refine GW.ldAt ((n64 (s.2))) rfl trivial rfl Try.underlying28 (kn (t := 15) (j := 0) (by kernel_rfl)) (hd1) (by omega) ?_
  refine GW.mv rfl trivial (.inl rfl) (kn0 (t := 1) (c := .int .u64 (n64 (x))) (by kernel_rfl) rfl) (eqv_lasts _) ?_
  refine GW.bin (.int .u64 (n64 (s.2 + x))) rfl trivial rfl (kn (t := 16) (j := 1) (by kernel_rfl)) (kn (t := 17) (j := 2) (by kernel_rfl)) (fun w' => by simp [go_sem]) ?_
  refine GW.bin (.int .u64 (n64 ((s.2 + x) * K2))) rfl trivial rfl (kn (t := 18) (j := 3) (by kernel_rfl)) knc (fun w' => by simp [go_sem]) ?_
  refine GW.call2 (eqv (.int .u64 (n64 (rots 41 ((s.2 + x) * K2))))) rfl trivial rfl Try.func71 (by kernel_rfl) (by kernel_rfl) (eqv_lasts _) (kn (t := 19) (j := 4) (by kernel_rfl)) knc (fun v u w' hg hv hu => ?_) ?_
  · obtain rfl : v = _ := hv
    obtain rfl : u = _ := hu
    refine (rot41_any _ w').mono ?_
    rintro e w2 ⟨rfl, rfl⟩
    exact ⟨_, rfl, rfl, Gr.refl _⟩
  refine GW.p1 (.pointer (some ⟨w.heap.size, 0, none⟩)) rfl trivial (kn0 (t := 2) (c := .pointer (some ⟨w.heap.size, 0, none⟩)) (by kernel_rfl) rfl) (fun ρ w' hρ hg => by simp [execOp, hρ, go_sem]) ?_
  refine GW.ldAt ((n64 (y))) rfl trivial rfl Try.underlying28 (kn (t := 21) (j := 6) (by kernel_rfl)) (hd0) (by omega) ?_
  refine GW.bin (.int .u64 (n64 (rots 41 ((s.2 + x) * K2) ^^^ y))) rfl trivial rfl (kn (t := 20) (j := 5) (by kernel_rfl)) (kn (t := 22) (j := 7) (by kernel_rfl)) (fun w' => by simp [go_sem]) ?_
  refine GW.tail (m := 9) (by simp) (by kernel_rfl) (by kernel_rfl) (fun w' hg => ?_)
  intro v0 _ v1 _ v2 _ v3 _ v4 _ v5 _ v6 _ v7 _ v8 h8
  obtain rfl : v8 = (.int .u64 (n64 (rots 41 ((s.2 + x) * K2) ^^^ y))) := h8
  simp only [GFin, List.take_succ_cons, List.take_zero, List.drop_succ_cons, List.drop_zero, Act.put, List.setIfInBounds_toArray, List.set_cons_succ, List.set_cons_zero]
  have hg4 : Gr w w' := hg3.trans hg
  have hlt1 : w.heap.size + 1 < w2.heap.size := he1.lt
  have hk0 := he0.below hg hlt
  have hk1 := he1.below hg hlt1
  have c1 := hk0.cell 1
  have f1 := hk0.frozen 1
  rw [← hz.out]
  have hm0 : Blk (w'.setCell ⟨w.heap.size, 1, none⟩ (.int .u64 (n64 z))) w.heap.size 83 #[.int .u64 (n64 y), .int .u64 (n64 z)] := hk0.set_ 1 _
  have hm1 := hk1.far (p := ⟨w.heap.size, 1, none⟩) (by show w.heap.size + 1 ≠ w.heap.size; omega) (.int .u64 (n64 z))
  have hg5 : Gr w (w'.setCell ⟨w.heap.size, 1, none⟩ (.int .u64 (n64 z))) := Below.setCell hg4 (p := ⟨w.heap.size, 1, none⟩) (Nat.le_refl _) _
  have q0 : (w'.setCell ⟨w.heap.size, 1, none⟩ (.int .u64 (n64 z))).cell? ⟨w.heap.size, 0, none⟩ = some (.int .u64 (n64 y)) := hm0.cell 0
  have q1 : (w'.setCell ⟨w.heap.size, 1, none⟩ (.int .u64 (n64 z))).cell? ⟨w.heap.size, 1, none⟩ = some (.int .u64 (n64 z)) := hm0.cell 1
  have q2 := hm1.cell 0
  have q3 := hm1.cell 1
  have q4 := hm1.frozen 0
  have q5 := hm1.frozen 1
  clear hg hg3 hg4 he0 he1 hd0 hd1 hk0 hk1
  have hm2 : Blk (((w'.setCell ⟨w.heap.size, 1, none⟩ (.int .u64 (n64 z))).setCell ⟨w.heap.size + 1, 0, none⟩ (.int .u64 (n64 y))).setCell ⟨w.heap.size + 1, 1, none⟩ (.int .u64 (n64 z))) (w.heap.size + 1) 83 #[.int .u64 (n64 y), .int .u64 (n64 z)] := (hm1.set_ 0 _).set_ 1 _
  have z0 := hm2.cell 0
  have z1 := hm2.cell 1
  have hgf := Below.setCell (Below.setCell hg5 (p := ⟨w.heap.size + 1, 0, none⟩) (Nat.le_succ _) (.int .u64 (n64 y))) (p := ⟨w.heap.size + 1, 1, none⟩) (Nat.le_succ _) (.int .u64 (n64 z))
  clear hm0 hm1 hm2 hg5
  go_wp2
  refine bodyPost_ret (v := sumV (y, z)) (by simp [results, Try.results65, go_sem, z0, z1]) rfl ⟨rfl, hgf⟩

theorem refStart_any (w : World) : Calls Try.prog 35 #[] w fun e w' => e = .returned (sumV start) ∧ Gr w w' := by
  go_enter Try.func35, Try.ntmps35
  go_wp2
  refine bodyPost_ret (v := sumV start) (by simp [results, Try.results35, go_sem]; decide) rfl ⟨rfl, (Gr.refl w).alloc _⟩
set_option maxRecDepth 100000 in
set_option maxHeartbeats 400000 in
theorem refRound_any (s : St) (x : UInt64) (w : World) : Calls Try.prog 36 #[sumV s, .int .u64 (n64 x)] w fun e w' => e = .returned (sumV (round s x)) ∧ Gr w w' := by
  obtain ⟨w1, hw1⟩ : ∃ w1, w1 = (w.alloc (.cells #[.int .u64 (n64 s.1), .int .u64 (n64 s.2)] 30)).alloc (.cells #[.int .u64 0, .int .u64 0] 30) := ⟨_, rfl⟩
  have hb0 := (Blk.new w 30 #[.int .u64 (n64 s.1), .int .u64 (n64 s.2)]).alloc (.cells #[.int .u64 0, .int .u64 0] 30)
  have hb1 := Blk.new (w.alloc (.cells #[.int .u64 (n64 s.1), .int .u64 (n64 s.2)] 30)) 30 #[.int .u64 0, .int .u64 0]
  rw [World.size_alloc] at hb1
  have hg1 : Gr w ((w.alloc (.cells #[.int .u64 (n64 s.1), .int .u64 (n64 s.2)] 30)).alloc (.cells #[.int .u64 0, .int .u64 0] 30)) := ((Gr.refl w).alloc _).alloc _
  rw [← hw1] at hb0 hb1 hg1
  have hw1' := Lib.hid hw1
  clear hw1
  obtain ⟨y, hy⟩ : ∃ y, y = rots 29 ((s.1 ^^^ x) * K1) + s.2 := ⟨_, rfl⟩
  obtain ⟨z, hz⟩ : ∃ z, z = rots 41 ((s.2 + x) * K2) ^^^ y := ⟨_, rfl⟩
  rw [show round s x = (y, z) by rw [hz, hy]; rfl]
  replace hy := Lib.hid hy
  go_enter Try.func36, Try.ntmps36
  replace hz := Lib.hid hz
  go_wp2
  rw [← hw1'.out]
  clear hw1'
  have hlt : w.heap.size < w1.heap.size := hb0.lt
  have hc0 : w1.cell? ⟨w.heap.size, 0, none⟩ = some (.int .u64 (n64 s.1)) := hb0.cell 0
  have hc1 : w1.cell? ⟨w.heap.size, 1, none⟩ = some (.int .u64 (n64 s.2)) := hb0.cell 1
  refine region_grow (by kernel_rfl) (by kernel_rfl) ?_
  refine GW.p1 (.pointer (some ⟨w.heap.size, 0, none⟩)) rfl trivial (kn0 (t := 2) (c := .pointer (some ⟨w.heap.size, 0, none⟩)) (by kernel_rfl) rfl) (fun ρ w' hρ hg => by simp [execOp, hρ, go_sem]) ?_
  refine GW.ldAt ((n64 (s.1))) rfl trivial rfl Try.underlying28 (kn (t := 7) (j := 0) (by kernel_rfl)) (hc0) (by omega) ?_
  refine GW.mv rfl trivial (.inl rfl) (kn0 (t := 1) (c := .int .u64 (n64 (x))) (by kernel_rfl) rfl) (eqv_lasts _) ?_
  refine GW.bin (.int .u64 (n64 (s.1 ^^^ x))) rfl trivial rfl (kn (t := 8) (j := 1) (by kernel_rfl)) (kn (t := 9) (j := 2) (by kernel_rfl)) (fun w' => by simp [go_sem]) ?_
  refine GW.bin (.int .u64 (n64 ((s.1 ^^^ x) * K1))) rfl trivial rfl (kn (t := 10) (j := 3) (by kernel_rfl)) knc (fun w' => by simp [go_sem]) ?_
  refine GW.call2 (eqv (.int .u64 (n64 (rots 29 ((s.1 ^^^ x) * K1))))) rfl trivial rfl Try.func57 (by kernel_rfl) (by kernel_rfl) (eqv_lasts _) (kn (t := 11) (j := 4) (by kernel_rfl)) knc (fun v u w' hg hv hu => ?_) ?_
  · obtain rfl : v = _ := hv
    obtain rfl : u = _ := hu
    refine (turn_any 29 _ w' (by omega)).mono ?_
    rintro e w2 ⟨rfl, rfl⟩
    exact ⟨_, rfl, rfl, Gr.refl _⟩
  refine GW.p1 (.pointer (some ⟨w.heap.size, 1, none⟩)) rfl trivial (kn0 (t := 2) (c := .pointer (some ⟨w.heap.size, 0, none⟩)) (by kernel_rfl) rfl) (fun ρ w' hρ hg => by simp [execOp, hρ, go_sem]) ?_
  refine GW.ldAt ((n64 (s.2))) rfl trivial rfl Try.underlying28 (kn (t := 13) (j := 6) (by kernel_rfl)) (hc1) (by omega) ?_
  refine GW.bin (.int .u64 (n64 (rots 29 ((s.1 ^^^ x) * K1) + s.2))) rfl trivial rfl (kn (t := 12) (j := 5) (by kernel_rfl)) (kn (t := 14) (j := 7) (by kernel_rfl)) (fun w' => by simp [go_sem]) ?_
  refine GW.mv rfl trivial (.inr rfl) (kn (t := 15) (j := 8) (by kernel_rfl)) (eqv_lasts _) ?_
  refine GW.done (by simp) (by kernel_rfl) (fun w' hg => ?_)
  intro v0 _ v1 _ v2 _ v3 _ v4 _ v5 _ v6 _ v7 _ v8 _ v9 h9
  obtain rfl : v9 = (.int .u64 (n64 (rots 29 ((s.1 ^^^ x) * K1) + s.2))) := h9
  simp only [GFin, Act.put, List.setIfInBounds_toArray, List.set_cons_succ, List.set_cons_zero]
  rw [← hy.out]
  have hg2 : Gr w w' := hg1.trans hg
  have hd0 := hb0.below hg hb0.lt
  have hd1 := hb1.below hg hb1.lt
  have e0 := hd0.cell 1
  have ht := Lib.hid (fun w => turn_any 41 ((s.2 + x) * K2) w (by omega))
  obtain ⟨q, hq⟩ : ∃ q, q = rots 41 ((s.2 + x) * K2) := ⟨_, rfl⟩
  have hz2 : z = q ^^^ y := by rw [hq]; exact hz.out
  rw [← hq] at ht
  replace hz2 := Lib.hid hz2
  have f0 := hd1.frozen 0
  have f1 := hd1.frozen 1
  have g0 := hd1.cell 0
  have g1 := hd1.cell 1
  have hm2 : Blk ((w'.setCell ⟨w.heap.size + 1, 0, none⟩ (.int .u64 (n64 y))).setCell ⟨w.heap.size + 1, 1, none⟩ (.int .u64 (n64 z))) (w.heap.size + 1) 30 #[.int .u64 (n64 y), .int .u64 (n64 z)] := (hd1.set_ 0 _).set_ 1 _
  have z0 := hm2.cell 0
  have z1 := hm2.cell 1
  have hgf := Below.setCell (Below.setCell hg2 (p := ⟨w.heap.size + 1, 0, none⟩) (Nat.le_succ _) (.int .u64 (n64 y))) (p := ⟨w.heap.size + 1, 1, none⟩) (Nat.le_succ _) (.int .u64 (n64 z))
  clear hg hg1 hg2 hb0 hb1 hd1 hd0 hm2 hc0 hc1 hz hq hy
  have hz3 : z = q ^^^ y := hz2.out
  clear hz2
  subst hz3
  go_wp2_with (go_at_call 57; refine (ht.out _).mono ?_; rintro e w2 ⟨rfl, rfl⟩)
  refine bodyPost_ret (v := sumV (y, q ^^^ y)) (by simp [results, Try.results36, go_sem, z0, z1]) rfl ⟨rfl, hgf⟩
end Mix
end Go.Proofs.Yteadcblmomngpaa
namespace Go.Proofs.Yteadcblmomngpaa
open Go Go.RowKit W
namespace Mix
theorem byteType : ByteType Try.prog 5 := ⟨by kernel_rfl, by kernel_rfl⟩
def digits : List UInt8 := [48, 49, 50, 51, 52, 53, 54, 55, 56, 57, 97, 98, 99, 100, 101, 102]
def L (d e : Nat → UInt8) : Nat → List UInt8
  | 0 => List.replicate 32 0
  | k + 1 => ((L d e k).set k (d k)).set (16 + k) (e k)
theorem L_length (d e : Nat → UInt8) (k : Nat) : (L d e k).length = 32 := by
  induction k with
  | zero => simp [L]
  | succ k ih => simp [L, ih]
/-- The digit of a number below 16. -/
def dg (x : UInt64) : UInt8 := digits.getD (x.toNat % 16) 0
/-- The j-th half byte, the lowest first. -/
def nib (x : UInt64) (j : Nat) : UInt64 := UInt64.ofNat (x.toNat / 2 ^ (4 * j))
def up (x : UInt64) (k : Nat) : UInt8 := dg (nib x (15 - k))
theorem dg_get (x : UInt64) (h : (n64 (x &&& 15)).toNat < (⟨#[48, 49, 50, 51, 52, 53, 54, 55, 56, 57, 97, 98, 99, 100, 101, 102]⟩ : ByteArray).size) :
    (⟨#[48, 49, 50, 51, 52, 53, 54, 55, 56, 57, 97, 98, 99, 100, 101, 102]⟩ : ByteArray)[(n64 (x &&& 15)).toNat]'h = dg x := by
  have e : (n64 (x &&& 15)).toNat = x.toNat % 16 := by
    rw [n64_toNat, UInt64.toNat_and]
    exact Nat.and_two_pow_sub_one_eq_mod x.toNat 4
  unfold dg
  rw [← e]
  generalize (n64 (x &&& 15)).toNat = m at h
  have h' : m < 16 := h
  show (#[48, 49, 50, 51, 52, 53, 54, 55, 56, 57, 97, 98, 99, 100, 101, 102] : Array UInt8)[m] = _
  rw [← Array.getElem_toList]
  show digits[m] = _
  rw [List.getD_eq_getElem?_getD, List.getElem?_eq_getElem (show m < digits.length from h')]
  rfl
theorem and_lt16 (x : UInt64) : n64 (x &&& 15) < 16 := by
  have : (x &&& 15).toNat = x.toNat % 16 := by rw [UInt64.toNat_and]; exact Nat.and_two_pow_sub_one_eq_mod x.toNat 4
  unfold n64
  omega
theorem up_eq (x : UInt64) (k : Nat) (hk : k < 16) : dg (UInt64.ofInt (n64 x / 2 ^ (60 - 4 * k))) = up x k := by
  have e : n64 x / 2 ^ (60 - 4 * k) = ((x.toNat / 2 ^ (60 - 4 * k) : Nat) : Int) := by unfold n64; simp
  rw [e, w_ofNat_u64, show 60 - 4 * k = 4 * (15 - k) by omega]
  rfl
end Mix
end Go.Proofs.Yteadcblmomngpaa
namespace Go.Proofs.Yteadcblmomngpaa
open Go Go.RowKit W
namespace Mix
theorem shl_eq (c : UInt8) (k : Nat) : c.toUInt64 * UInt64.ofInt (2 ^ (8 * k)) = UInt64.ofNat (c.toNat * 256 ^ k) := by
  have e : ((2 : Int) ^ (8 * k)) = ((256 ^ k : Nat) : Int) := by rw [Int.pow_mul]; simp
  rw [e, w_ofNat_u64, UInt64.ofNat_mul]
  congr 1
  simp
theorem word_any (A : Option Addr) (c B : Nat) (l : List UInt8) (w : World) (hs : l.length ≤ 8) (hrd : RB w B A l) :
    Calls Try.prog 66 #[.slice A l.length c] w fun e w' => e = .returned (.int .u64 (n64 (word l))) ∧ w = w' := by
  have hrd' := Lib.hid hrd
  clear hrd
  go_enter Try.func66, Try.ntmps66
  go_wp2
  go_loop [3, 8] (fun s i => ∃ k : Nat, k ≤ l.length ∧ s = .int .u64 (n64 (word (l.take k))) ∧ i = .int .i64 k) (fun _ i => l.length - (intOf i).toNat)
  case atStart => exact ⟨0, Nat.zero_le _, rfl, rfl⟩
  case round =>
    obtain ⟨k, hk, rfl, rfl⟩ := hrel
    by_cases h : k < l.length
    · obtain ⟨ad, rfl, _, hc⟩ := hrd'.out.at_ h
      have hm := Lib.hid (word_or (l.take k) l[k] (by rw [List.length_take]; omega))
      have ht : (l.take k).length = k := by rw [List.length_take]; omega
      have hsn := Lib.hid (show l.take (k + 1) = l.take k ++ [l[k]] from List.take_succ_eq_append_getElem h)
      have ht' := Lib.hid ht
      clear ht
      generalize word (l.take k) = x at *
      go_wp2
      go_round
      case rel =>
        refine ⟨k + 1, by omega, ?_, by go_num⟩
        rw [hsn.out, ← hm.out, ht'.out]
        rw [shl_eq]
      case measure => simp [intOf]; omega
    · have hk' : k = l.length := by omega
      subst hk'
      rw [List.take_length]
      go_wp2
      go_ret
      exact ⟨rfl, rfl⟩
/-- All that lay there but block g lies as it lay. -/
def Kb (g : Nat) (w w' : World) : Prop := w.grownBy w' (some g)
section
variable {g : Nat} {a b c : World}
theorem Kb.refl (g : Nat) (w : World) : Kb g w w := World.grownBy.refl w _
theorem Kb.size (h : Kb g a b) : a.heap.size ≤ b.heap.size := World.grownBy.size h
theorem Kb.trans (h : Kb g a b) (k : Kb g b c) : Kb g a c := World.grownBy.trans h k
theorem Kb.set (h : Kb g a b) (i : Nat) (u : Value) : Kb g a (b.setCell ⟨g, i, none⟩ u) := World.grownBy.trans h ⟨rfl, rfl, rfl, by simp, fun k _ hk => Below.heap_setCell b ⟨g, i, none⟩ u k (fun e => hk (by rw [e]))⟩
theorem Kb.alloc (h : Kb g a b) (o : Obj) : Kb g a (b.alloc o) := World.grownBy.trans h (World.grownBy_alloc b o _)
theorem Kb.to {B : Nat} (h : Kb g a b) (k : Below B b c) (hB : a.heap.size ≤ B) : Kb g a c :=
  ⟨k.os.trans (World.grownBy.os h), k.tape.trans (World.grownBy.tape h), k.output.trans (World.grownBy.output h), Nat.le_trans (World.grownBy.size h) k.size, fun i hi hne => (k.block i (by omega)).trans (World.grownBy.block h i hi hne)⟩
theorem Kb.gr (h : Kb g a b) (k : Gr b c) : Kb g a c := h.to k (World.grownBy.size h)
theorem Kb.below (h : Kb g a b) (hg : g ≤ a.heap.size) : Below g a b := ⟨World.grownBy.os h, World.grownBy.tape h, World.grownBy.output h, World.grownBy.size h, fun i hi => World.grownBy.block h i (by omega) (fun e => by cases e; omega)⟩
theorem Kb.blk (h : Kb g a b) {i : Nat} {t : TypeId} {cs : Array Value} (hb : Blk a i t cs) (hi : i ≠ g) : Blk b i t cs := hb.grown h (fun e => hi (by cases e; rfl))
end
/-- Block g is a hash that has met the bytes l. -/
def MetN (N : Nat) (w : World) (g : Nat) (l : List UInt8) : Prop := ∃ A c, Blk w g 85 #[.int .u64 (n64 (feed start l).1), .int .u64 (n64 (feed start l).2), .bool true, .slice A (rest l).length c, .int .i64 (l.length : Int)] ∧
  RB w w.heap.size A (rest l) ∧ (∀ ad, A = some ad → g < ad.block ∧ ad.block < N) ∧ (rest l).length ≤ c ∧ c ≤ maxLen
def Met (w : World) (g : Nat) (l : List UInt8) : Prop := MetN w.heap.size w g l
def Fresh (w : World) (g : Nat) : Prop := Blk w g 85 #[.int .u64 0, .int .u64 0, .bool false, .slice none 0 0, .int .i64 0]
theorem begin_met (N g : Nat) (l : List UInt8) (w : World) (h : MetN N w g l) : Calls Try.prog 64 #[.pointer (some ⟨g, 0, none⟩)] w fun e w' => e = .returned (.tuple #[]) ∧ w = w' := by
  obtain ⟨A, c, hb, _⟩ := h
  have c2 : w.cell? ⟨g, 2, none⟩ = some (.bool true) := hb.cell 2
  go_enter Try.func64, Try.ntmps64
  go_wp2
  go_end0
  exact ⟨rfl, rfl⟩
theorem begin_fresh (N g : Nat) (w : World) (h : Fresh w g) : Calls Try.prog 64 #[.pointer (some ⟨g, 0, none⟩)] w fun e w' => e = .returned (.tuple #[]) ∧ MetN N w' g [] ∧ Kb g w w' := by
  have hb : Blk w g _ _ := h
  have c2 : w.cell? ⟨g, 2, none⟩ = some (.bool false) := hb.cell 2
  have hst := Lib.hid (start_any w)
  go_enter Try.func64, Try.ntmps64
  go_wp2_with fail
  refine hst.out.mono ?_
  rintro e w' ⟨rfl, hg⟩
  have hb' := hb.below hg hb.lt
  have d0 := hb'.cell 0
  have d1 := hb'.cell 1
  have d2 := hb'.cell 2
  have f0 := hb'.frozen 0
  have f1 := hb'.frozen 1
  have f2 := hb'.frozen 2
  have hbf := Lib.hid (((hb'.set_ 0 (.int .u64 (n64 start.1))).set_ 1 (.int .u64 (n64 start.2))).set_ 2 (.bool true))
  have hbel := Lib.hid (((((Kb.refl g w).gr hg).set 0 (.int .u64 (n64 start.1))).set 1 (.int .u64 (n64 start.2))).set 2 (.bool true))
  clear hb hb' hg c2 h
  go_wp2
  go_end0
  refine ⟨rfl, ⟨none, 0, ?_, ?_, fun _ h => (by cases h), ?_, by unfold maxLen; omega⟩, hbel.out⟩
  · rw [feed_less (by simp), rest_less (by simp)]
    exact hbf.out
  · rw [rest_less (by simp)]
    exact RB.nil_
  · rw [rest_less (by simp)]
    exact Nat.le_refl _
theorem begin_any (N g : Nat) (l : List UInt8) (w : World) (h : MetN N w g l ∨ (Fresh w g ∧ l = [])) : Calls Try.prog 64 #[.pointer (some ⟨g, 0, none⟩)] w fun e w' => e = .returned (.tuple #[]) ∧ MetN N w' g l ∧ Kb g w w' := by
  rcases h with h | ⟨h, rfl⟩
  · refine (begin_met N g l w h).mono ?_
    rintro e w' ⟨rfl, rfl⟩
    exact ⟨rfl, h, Kb.refl _ _⟩
  · exact begin_fresh N g w h
theorem MetN.lt {N : Nat} {w : World} {g : Nat} {l : List UInt8} (h : MetN N w g l) : g < w.heap.size := by
  obtain ⟨A, c, hb, _⟩ := h
  exact hb.lt
theorem RB.setFar {w : World} {B : Nat} {A : Option Addr} {l : List UInt8} (h : RB w B A l) {p : Addr} (hp : ∀ ad, A = some ad → ad.block ≠ p.block) (u : Value) : RB (w.setCell p u) B A l :=
  ⟨h.1, fun hn => by
    obtain ⟨ad, e, hb, hc⟩ := h.2 hn
    exact ⟨ad, e, hb, fun j u' hu => (World.cell?_setCell_other _ _ _ _ (fun h' => hp ad e (by rw [← block_of_add ad j, h']))).trans (hc j u' hu)⟩⟩
def slen : Value → Nat
  | .slice _ n _ => n
  | _ => 0
set_option maxRecDepth 100000 in
set_option maxHeartbeats 1600000 in
theorem write_any (g : Nat) (l b : List UInt8) (Ab : Option Addr) (cb : Nat) (w : World) (h : Met w g l ∨ (Fresh w g ∧ l = [])) (hb : RB w g Ab b) (hs : l.length + b.length ≤ 1099511627776) (hcb : b.length ≤ cb) :
    Calls Try.prog 55 #[.pointer (some ⟨g, 0, none⟩), .slice Ab b.length cb] w fun e w' => e = .returned (.tuple #[]) ∧ Met w' g (l ++ b) ∧ Kb g w w' := by
  have hbeg := Lib.hid (begin_any w.heap.size g l w h)
  have hb' := Lib.hid hb
  have hgw : g < w.heap.size := (by rcases h with h | ⟨h, _⟩; exact MetN.lt h; exact Blk.lt h)
  clear h hb
  obtain ⟨i0, hi0, hz0, hz1, hz2⟩ := info_parts byteType.2
  go_enter Try.func55, Try.ntmps55
  go_wp2_with fail
  refine hbeg.out.mono ?_
  rintro e w1 ⟨rfl, hm1, hbel1⟩
  have hglt := hm1.lt
  obtain ⟨A, c, hk, hr, hA, hc, hm⟩ := hm1
  have hrl := rest_lt _ l (Nat.le_refl _)
  have hfeed := Lib.hid (feed_append b l.length start l (Nat.le_refl _))
  have hb1 := Lib.hid (hb'.out.below (hbel1.below (Nat.le_of_lt hgw)))
  have hsz1 := hbel1.size
  have d4 : w1.cell? ⟨g, 4, none⟩ = some (.int .i64 (l.length : Int)) := hk.cell 4
  have f4 := hk.frozen 4
  obtain ⟨n, hn⟩ : ∃ n : Int, n = (l.length : Int) + (b.length : Int) := ⟨_, rfl⟩
  have hk2 : Blk (w1.setCell ⟨g, 4, none⟩ (.int .i64 ((l.length : Int) + (b.length : Int)))) g 85 #[.int .u64 (n64 (feed start l).1), .int .u64 (n64 (feed start l).2), .bool true, .slice A (rest l).length c, .int .i64 ((l.length : Int) + (b.length : Int))] := hk.set_ 4 _
  have hbel2 := hbel1.set 4 (.int .i64 ((l.length : Int) + (b.length : Int)))
  have hb2 := hb1.out.setCell (p := ⟨g, 4, none⟩) (Nat.le_refl _) (.int .i64 ((l.length : Int) + (b.length : Int)))
  have hr2 := RB.setFar hr (p := ⟨g, 4, none⟩) (fun ad h => by have := hA ad h; show ad.block ≠ g; omega) (.int .i64 ((l.length : Int) + (b.length : Int)))
  have hsz : (w1.setCell ⟨g, 4, none⟩ (.int .i64 ((l.length : Int) + (b.length : Int)))).heap.size = w1.heap.size := World.size_setCell _ _ _
  have hk3 := Lib.hid (hk2.alloc (.cells #[] 5))
  have hb3 := Lib.hid (hb2.alloc (by rw [hsz]; omega) (.cells #[] 5))
  have hr3 := Lib.hid (hr2.alloc (by rw [hsz]; exact Nat.le_refl _) (.cells #[] 5))
  have hbel3 := Lib.hid (hbel2.alloc (.cells #[] 5))
  have hown3' := OB.made (E := 5) (base := w1.heap.size) (w1.setCell ⟨g, 4, none⟩ (.int .i64 ((l.length : Int) + (b.length : Int)))) (by rw [hsz]; exact Nat.le_refl _)
  rw [hsz] at hown3'
  have hown3 := Lib.hid hown3'
  have e3 := hk3.out.cell 3
  clear hbeg hb' hk hr hb1 hk2 hb2 hr2 hbel1 hbel2 hown3' hn n hm
  go_wp2_with (first
    | (refine wpList_append_bytes _ rfl (.tmp 18) (.tmp 22) 63 rfl w1.heap.size 5 Try.underlying63 byteType _ [] rfl (by exact hown3.out) w1.heap.size _ _ _ (rest l) rfl rfl (by exact hr3.out) (by simp; omega) (by simp) (rest l) rfl (rest l).length rfl ?_; intro A4 c4 w4 hown4 hbel4; have hb4 := Lib.hid (hb3.out.below (Below.mono hbel4 (Nat.le_of_lt hglt))); have hk4 := Lib.hid (hk3.out.below hbel4 hglt); have hbel4' := Lib.hid (hbel3.out.to hbel4 hsz1); have hle4 : w1.heap.size ≤ w4.heap.size := (by have := hbel4.size; simp at this; omega); clear hbel4)
    | (refine wpList_append_bytes _ rfl (.tmp 23) (.tmp 24) 63 rfl w1.heap.size 5 Try.underlying63 byteType _ (rest l) rfl (by exact hown4) g _ _ _ b rfl rfl (by exact hb4.out) (by omega) (by exact hle4) (rest l ++ b) rfl (rest l ++ b).length rfl ?_; intro A5 c5 w5 hown5 hbel5; have hk5 := Lib.hid (hk4.out.below hbel5 hglt); have hbel5' := Lib.hid (hbel4'.out.to hbel5 hsz1)))
  obtain ⟨A6, c6, he6, hc6, hm6⟩ := hown5.shape
  have hA5 : ∀ ad, A5 = some ad → g < ad.block ∧ ad.block < w5.heap.size := fun ad h => by
    subst h
    obtain ⟨blk, o, sp⟩ := ad
    have h1 := (OB.block hown5).1
    have h2 := (OB.block hown5).2.1
    show g < blk ∧ blk < _
    omega
  have hr5 := Lib.hid hown5.rb
  cases he6
  clear hown5 hown4 hown3 hr3 hk3 hb3 hbel3 hb4 hk4 hbel4' e3 d4 f4 hA
  go_loopw [4] (fun v wr => ∃ (m : List UInt8) (s : St) (A : Option Addr) (c : Nat), v = .slice A m.length c ∧ RB wr wr.heap.size A m ∧ (∀ ad, A = some ad → g < ad.block ∧ ad.block < wr.heap.size) ∧ m.length ≤ c ∧ c ≤ maxLen ∧
    (∃ A0 c0, Blk wr g 85 #[.int .u64 (n64 s.1), .int .u64 (n64 s.2), .bool true, .slice A0 (rest l).length c0, .int .i64 ((l.length : Int) + (b.length : Int))]) ∧ Kb g w wr ∧ Hid (feed s m = feed start (l ++ b) ∧ rest m = rest (l ++ b))) (fun v _ => slen v)
  case atStart =>
    exact ⟨rest l ++ b, feed start l, A5, c5, by simp, hr5.out, hA5, hc6, hm6, ⟨A, c, hk5.out⟩, hbel5'.out, Lib.hid ⟨hfeed.out.1.symm, hfeed.out.2.symm⟩⟩
  case round =>
    obtain ⟨m, s, A, c, rfl, hr, hA, hc, hmx, ⟨A0, c0, hk⟩, hbel, hF⟩ := hrel
    clear hk5 hbel5' hr5 hA5
    by_cases h8 : 8 ≤ m.length
    · have hr' := Lib.hid hr
      have hk' := Lib.hid hk
      have hglt := hk.lt
      have hbel' := Lib.hid hbel
      have q0 : wr.cell? ⟨g, 0, none⟩ = some (.int .u64 (n64 s.1)) := hk.cell 0
      have q1 : wr.cell? ⟨g, 1, none⟩ = some (.int .u64 (n64 s.2)) := hk.cell 1
      have hF' : feed (round s (word (m.take 8))) (m.drop 8) = feed start (l ++ b) ∧ rest (m.drop 8) = rest (l ++ b) := by
        rw [← feed_more h8, ← rest_more h8]; exact hF.out
      replace hF' := Lib.hid hF'
      clear hr hk hbel hF
      go_wp2
      refine region_grow (by kernel_rfl) (by kernel_rfl) ?_
      refine GW.mv rfl trivial (.inl rfl) (kn0 (t := 0) (c := .pointer (some ⟨g, 0, none⟩)) (by kernel_rfl) rfl) (eqv_lasts _) ?_
      refine GW.mv rfl trivial (.inl rfl) (kn0 (t := 0) (c := .pointer (some ⟨g, 0, none⟩)) (by kernel_rfl) rfl) (eqv_lasts _) ?_
      refine GW.p1 (.pointer (some ⟨g, 0, none⟩)) rfl trivial (kn (t := 30) (j := 1) (by kernel_rfl)) (fun ρ w' hρ hg => by simp [execOp, hρ, go_sem]) ?_
      refine GW.p1 (.pointer (some ⟨g, 0, none⟩)) rfl trivial (kn (t := 31) (j := 2) (by kernel_rfl)) (fun ρ w' hρ hg => by simp [execOp, hρ, go_sem]) ?_
      refine GW.p1 (sumV s) rfl trivial (kn (t := 32) (j := 3) (by kernel_rfl)) (fun ρ w' hρ hg => by have h0 := (hg.cell (p := ⟨g, 0, none⟩) hglt).trans q0; have h1 := (hg.cell (p := ⟨g, 1, none⟩) hglt).trans q1; simp [execOp, hρ, go_sem, h0, h1]) ?_
      refine GW.mv rfl trivial (.inl rfl) (kn0' (t := 4) (c := .slice A m.length c) (by kernel_rfl) rfl (isB_lasts m) (⟨A, c, rfl, hc, hmx, hr'.out⟩)) (isB_lasts m) ?_
      refine GW.shi m .i64 8 rfl trivial rfl Try.underlying63 hi0 (kn (t := 34) (j := 5) (by kernel_rfl)) knc (by omega) ?_
      refine GW.call1 (eqv (.int .u64 (n64 (word (m.take 8))))) rfl trivial rfl Try.func66 (by kernel_rfl) (by kernel_rfl) (eqv_lasts _) (kn (t := 35) (j := 6) (by kernel_rfl)) (fun v w' hg hv => ?_) ?_
      · obtain ⟨A', c', rfl, _, _, hr2⟩ := hv
        refine (word_any A' c' _ (m.take 8) w' (by rw [List.length_take]; omega) hr2).mono ?_
        rintro e w2 ⟨rfl, rfl⟩
        exact ⟨_, rfl, rfl, Gr.refl _⟩
      refine GW.call2 (eqv (sumV (round s (word (m.take 8))))) rfl trivial rfl Try.func65 (by kernel_rfl) (by kernel_rfl) (eqv_lasts _) (kn (t := 33) (j := 4) (by kernel_rfl)) (kn (t := 36) (j := 7) (by kernel_rfl)) (fun v u w' hg hv hu => ?_) ?_
      · obtain rfl : v = _ := hv
        obtain rfl : u = _ := hu
        refine (sround_any s _ w').mono ?_
        rintro e w2 ⟨rfl, hg2⟩
        exact ⟨_, rfl, rfl, hg2⟩
      refine GW.tail (m := 9) (by simp) (by kernel_rfl) (by kernel_rfl) (fun w' hg => ?_)
      intro v0 h0 v1 _ v2 _ v3 _ v4 _ v5 _ v6 _ v7 _ v8 h8
      obtain rfl : v0 = (.pointer (some ⟨g, 0, none⟩)) := h0
      obtain rfl : v8 = (sumV (round s (word (m.take 8)))) := h8
      simp only [GFin, List.take_succ_cons, List.take_zero, List.drop_succ_cons, List.drop_zero, Act.put, List.setIfInBounds_toArray, List.set_cons_succ, List.set_cons_zero]
      have hk2 := hk'.out.below hg hglt
      have q2 := hk2.cell 0
      have q3 := hk2.cell 1
      have f0 := hk2.frozen 0
      have f1 := hk2.frozen 1
      obtain ⟨s2, hs2⟩ : ∃ s2, s2 = round s (word (m.take 8)) := ⟨_, rfl⟩
      rw [← hs2] at hF' ⊢
      clear hs2
      have hk3 : Blk ((w'.setCell ⟨g, 0, none⟩ (.int .u64 (n64 s2.1))).setCell ⟨g, 1, none⟩ (.int .u64 (n64 s2.2))) g 85 #[.int .u64 (n64 s2.1), .int .u64 (n64 s2.2), .bool true, .slice A0 (rest l).length c0, .int .i64 ((l.length : Int) + (b.length : Int))] := (hk2.set_ 0 _).set_ 1 _
      have hbel2 := Lib.hid (((hbel'.out.gr hg).set 0 (.int .u64 (n64 s2.1))).set 1 (.int .u64 (n64 s2.2)))
      have hr3 := Lib.hid (RB.setFar (RB.setFar ((hr'.out.below hg).more hg.size) (p := ⟨g, 0, none⟩) (fun ad h => by have := hA ad h; show ad.block ≠ g; omega) (.int .u64 (n64 s2.1))) (p := ⟨g, 1, none⟩) (fun ad h => by have := hA ad h; show ad.block ≠ g; omega) (.int .u64 (n64 s2.2)))
      replace hk3 := Lib.hid hk3
      have hsz' := hg.size
      clear hk2 hk' hr' hg q0 q1
      go_wp2
      go_roundw
      case rel =>
        refine ⟨m.drop 8, s2, _, c - 8, ?_, by rw [World.size_setCell, World.size_setCell]; exact hr3.out.drop h8 hc, ?_, by rw [List.length_drop]; omega, by omega, ⟨A0, c0, hk3.out⟩, hbel2.out, hF'⟩
        · rw [List.length_drop]
          simp [Addr.add]
        · intro ad had
          cases A with
          | none => split at had <;> cases had
          | some a0 =>
            have h1 := hA a0 rfl
            have h2 := hsz'
            rw [World.size_setCell, World.size_setCell]
            split at had
            · cases had; omega
            · cases had; rw [block_of_add]; omega
      case measure => simp [slen]; omega
    · have hml : m.length < 8 := by omega
      have q3 := hk.cell 3
      have f3 := hk.frozen 3
      have hF2 : s = feed start (l ++ b) ∧ m = rest (l ++ b) := by
        have := hF.out
        rwa [feed_less h8, rest_less h8] at this
      obtain ⟨hF3, hF4⟩ := hF2
      subst hF3
      subst hF4
      have hk2 := Lib.hid (hk.set_ 3 (.slice A (rest (l ++ b)).length c))
      have hbel2 := Lib.hid (hbel.set 3 (.slice A (rest (l ++ b)).length c))
      have hr2 := Lib.hid (RB.setFar hr (p := ⟨g, 3, none⟩) (fun ad h => by have := hA ad h; show ad.block ≠ g; omega) (.slice A (rest (l ++ b)).length c))
      clear hr hk hbel hF
      go_wp2
      go_end0
      refine ⟨rfl, ⟨A, c, ?_, by rw [World.size_setCell]; exact hr2.out, by rw [World.size_setCell]; exact hA, hc, hmx⟩, hbel2.out⟩
      have := hk2.out
      rw [show (((l ++ b).length : Nat) : Int) = (l.length : Int) + (b.length : Int) by simp]
      exact this
end Mix
end Go.Proofs.Yteadcblmomngpaa
namespace Go.Proofs.Yteadcblmomngpaa
open Go Go.RowKit W
namespace Mix
/-- What is put in at the end. -/
def lasts (n : UInt64) : List UInt64 := [n, 18446744073709551615, 0, 0]
theorem closed_lasts (s : St) (n : UInt64) : (lasts n).foldl round s = closed s n := rfl
theorem lasts_step (s : St) (n : UInt64) (k : Nat) (h : k < 4) : ((lasts n).take (k + 1)).foldl round s = round (((lasts n).take k).foldl round s) ((lasts n).getD k 0) := by
  rw [List.take_succ_eq_append_getElem h, List.foldl_append, List.getD_eq_getElem?_getD, List.getElem?_eq_getElem h]
  rfl
/-- A store into a block that is new. -/
theorem kb_far {g b : Nat} {w w' : World} (h : Kb g w w') (hb : w.heap.size ≤ b) (i : Nat) (u : Value) : Kb g w (w'.setCell ⟨b, i, none⟩ u) :=
  ⟨(World.grownBy.os (w' := w') h : _), (World.grownBy.tape (w' := w') h : _), (World.grownBy.output (w' := w') h : _), by rw [World.size_setCell]; exact World.grownBy.size (w' := w') h, fun k hk hne => (Below.heap_setCell w' ⟨b, i, none⟩ u k (by show k ≠ b; omega)).trans (World.grownBy.block (w' := w') h k hk hne)⟩
theorem run_index_ints {P : Program} (w : World) {T E : TypeId} {n : Nat} {kd : IntKind} {i : TypeInfo} (hT : P.underlying T = some (.array n E)) (hE : P.underlying E = some (.int kd)) (hi : P.info? E = some i) (h1 : i.size = 1)
    (cs : Array Value) (k : Nat) (hk : k < n) (v : Value) (hv : cs[k]? = some v) : (Instr.index T (.agg cs) (.int .i64 (k : Int))).run P w = .ok v w := by
  have hk' : (0 : Int) ≤ (k : Int) ∧ (k : Int) < (n : Int) := ⟨by omega, by omega⟩
  have hp := run_part_int (P := P) w hE cs (k * 1) v (by simpa using hv)
  simp only [Instr.index, asIntOf, Sem.run_bind, Sem.run_pure, run_underlying hT, Result.andThen_ok]
  rw [if_pos hk']
  simp only [Sem.run_bind, sizeOf, typeInfo]
  simp [hi, h1]
  simpa using hp
set_option maxRecDepth 100000 in
set_option maxHeartbeats 4000000 in
theorem hsum_any (g : Nat) (l : List UInt8) (w : World) (h : Met w g l ∨ (Fresh w g ∧ l = [])) (hs : l.length ≤ 1099511627776) :
    Calls Try.prog 56 #[.pointer (some ⟨g, 0, none⟩)] w fun e w' => e = .returned (sumV (of l)) ∧ Met w' g l ∧ Kb g w w' := by
  have hgw : g < w.heap.size := (by rcases h with h | ⟨h, _⟩; exact MetN.lt h; exact Blk.lt h)
  have h' : MetN w.heap.size (w.alloc (.cells #[.int .u64 0, .int .u64 0] 30)) g l ∨ (Fresh (w.alloc (.cells #[.int .u64 0, .int .u64 0] 30)) g ∧ l = []) := by
    rcases h with ⟨A, c, h1, h2, h3, h4⟩ | ⟨h, e⟩
    · exact .inl ⟨A, c, h1.alloc _, (h2.alloc (Nat.le_refl _) _).more (by simp), h3, h4⟩
    · exact .inr ⟨Blk.alloc h _, e⟩
  have hbeg := Lib.hid (begin_any w.heap.size g l _ h')
  have hrb := Blk.new w 30 #[.int .u64 0, .int .u64 0]
  have hk0 : Kb g w (w.alloc (.cells #[.int .u64 0, .int .u64 0] 30)) := (Kb.refl g w).alloc _
  clear h h'
  obtain ⟨i0, hi0, hz0, hz1, hz2⟩ := info_parts byteType.2
  go_enter Try.func56, Try.ntmps56
  go_wp2_with fail
  refine hbeg.out.mono ?_
  rintro e w1 ⟨rfl, hm1, hk1⟩
  have hrb1 := hk1.blk hrb (by omega)
  replace hk0 := hk0.trans hk1
  clear hk1 hrb hbeg
  obtain ⟨A, c, hk, hr, hA, hc, hm⟩ := hm1
  have hrl := rest_lt _ l (Nat.le_refl _)
  have hAr : ∀ ad, A = some ad → ad.block ≠ w.heap.size := fun ad h => by have := hA ad h; omega
  obtain ⟨j0, hj0, _, hj1, _⟩ := info_parts (show (Try.prog.info? 28).map (fun i => (i.zero, i.size, i.bytes)) = some (some (.int .u64 0), 1, 8) by kernel_rfl)
  have hglt := hk.lt
  have q0 : w1.cell? ⟨g, 0, none⟩ = some (.int .u64 (n64 (feed start l).1)) := hk.cell 0
  have q1 : w1.cell? ⟨g, 1, none⟩ = some (.int .u64 (n64 (feed start l).2)) := hk.cell 1
  have q3 : ∀ o, (w1.alloc o).cell? ⟨g, 3, none⟩ = some (.slice A (rest l).length c) := fun o => (hk.alloc o).cell 3
  have q4 : ∀ o, (w1.alloc o).cell? ⟨g, 4, none⟩ = some (.int .i64 (l.length : Int)) := fun o => (hk.alloc o).cell 4
  have hof := Lib.hid (show of l = closed (tailed (feed start l) (rest l)) (UInt64.ofNat l.length) from rfl)
  generalize hse : feed start l = s at *
  generalize hre : rest l = r at *
  replace hse := Lib.hid hse
  replace hre := Lib.hid hre
  have hb3 := Blk.new w1 83 #[.int .u64 (n64 s.1), .int .u64 (n64 s.2)]
  have hkA := hk.alloc (.cells #[.int .u64 (n64 s.1), .int .u64 (n64 s.2)] 83)
  have hres := hrb1.alloc (.cells #[.int .u64 (n64 s.1), .int .u64 (n64 s.2)] 83)
  have hw01 : w.heap.size ≤ w1.heap.size := Nat.le_of_lt hrb1.lt
  have hg3 : g < w1.heap.size := hglt
  have hrA := hr.alloc (Nat.le_refl _) (.cells #[.int .u64 (n64 s.1), .int .u64 (n64 s.2)] 83)
  have hkb := hk0.alloc (.cells #[.int .u64 (n64 s.1), .int .u64 (n64 s.2)] 83)
  have hrsz : w.heap.size < w1.heap.size := hrb1.lt
  clear hk hr hk0 hrb1
  by_cases hr0 : r.length = 0
  · have hrn : r = [] := List.eq_nil_of_length_eq_zero hr0
    subst hrn
    have ht : tailed s [] = s := rfl
    rw [ht] at hof
    clear ht
    replace hb3 := Lib.hid hb3
    replace hkA := Lib.hid hkA
    replace hres := Lib.hid hres
    replace hrA := Lib.hid hrA
    replace hkb := Lib.hid hkb
    go_wp2
    generalize w1.alloc (.cells #[.int .u64 (n64 s.1), .int .u64 (n64 s.2)] 83) = wa at *
    go_loopw [34] (fun i wr => ∃ (k : Nat) (st : St), k ≤ 4 ∧ i = .int .i64 k ∧ Blk wr w1.heap.size 83 #[.int .u64 (n64 st.1), .int .u64 (n64 st.2)] ∧ Blk wr g 85 #[.int .u64 (n64 s.1), .int .u64 (n64 s.2), .bool true, .slice A ([]).length c, .int .i64 (l.length : Int)] ∧ Blk wr w.heap.size 30 #[.int .u64 0, .int .u64 0] ∧ RB wr w1.heap.size A ([]) ∧ Kb g w wr ∧ Hid (st = ((lasts (UInt64.ofNat l.length)).take k).foldl round (s))) (fun i _ => 4 - (intOf i).toNat)
    case atStart => exact ⟨0, s, Nat.zero_le _, rfl, hb3.out, hkA.out, hres.out, hrA.out, hkb.out, Lib.hid rfl⟩
    case round =>
      clear hb3 hkA hres hrA hkb
      obtain ⟨k, st, hk, rfl, hb3, hkA, hres, hrA, hkb, hst⟩ := hrel
      by_cases h : k < 4
      · have hstep := lasts_step (s) (UInt64.ofNat l.length) k h
        rw [← hst.out] at hstep
        replace hstep := Lib.hid hstep
        clear hst
        have d0 := hb3.cell 0
        have d1 := hb3.cell 1
        have hblt := hb3.lt
        have hkq : k = 0 ∨ k = 1 ∨ k = 2 ∨ k = 3 := by omega
        rcases hkq with rfl | rfl | rfl | rfl
        · have hc' := sround_any st (UInt64.ofNat l.length) wr
          have hstep2 : ((lasts (UInt64.ofNat l.length)).take (0 + 1)).foldl round (s) = round st (UInt64.ofNat l.length) := hstep.out
          generalize round st (UInt64.ofNat l.length) = st2 at *
          replace hstep2 := Lib.hid hstep2
          have hc := Lib.hid hc'
          clear hc' hstep
          have hix : ∀ w, (Instr.index 98 (.agg #[.int .u64 (n64 (UInt64.ofNat l.length)), .int .u64 18446744073709551615, .int .u64 0, .int .u64 0]) (.int .i64 0)).run Try.prog w = .ok (.int .u64 (n64 (UInt64.ofNat l.length))) w := fun w => run_index_ints w Try.underlying98 Try.underlying28 hj0 hj1 _ 0 (by omega) _ rfl
          go_wp2_with fail
          refine hc.out.mono ?_
          rintro e w' ⟨rfl, hg⟩
          have hb4 := hb3.below hg hblt
          have z0 := hb4.cell 0
          have z1 := hb4.cell 1
          have zf0 := hb4.frozen 0
          have zf1 := hb4.frozen 1
          have n3 : Blk ((w'.setCell ⟨w1.heap.size, 0, none⟩ (.int .u64 (n64 st2.1))).setCell ⟨w1.heap.size, 1, none⟩ (.int .u64 (n64 st2.2))) w1.heap.size 83 #[.int .u64 (n64 st2.1), .int .u64 (n64 st2.2)] := (hb4.set_ 0 _).set_ 1 _
          have nA := ((hkA.below hg hkA.lt).far (p := ⟨w1.heap.size, 0, none⟩) (by show g ≠ w1.heap.size; omega) (.int .u64 (n64 st2.1))).far (p := ⟨w1.heap.size, 1, none⟩) (by show g ≠ w1.heap.size; omega) (.int .u64 (n64 st2.2))
          have nres := ((hres.below hg hres.lt).far (p := ⟨w1.heap.size, 0, none⟩) (by show w.heap.size ≠ w1.heap.size; omega) (.int .u64 (n64 st2.1))).far (p := ⟨w1.heap.size, 1, none⟩) (by show w.heap.size ≠ w1.heap.size; omega) (.int .u64 (n64 st2.2))
          have nrA := ((hrA.below (Below.mono hg (Nat.le_of_lt hblt))).setCell (p := ⟨w1.heap.size, 0, none⟩) (Nat.le_refl _) (.int .u64 (n64 st2.1))).setCell (p := ⟨w1.heap.size, 1, none⟩) (Nat.le_refl _) (.int .u64 (n64 st2.2))
          have nkb := kb_far (kb_far (hkb.gr hg) hw01 0 (.int .u64 (n64 st2.1))) hw01 1 (.int .u64 (n64 st2.2))
          replace n3 := Lib.hid n3
          replace nA := Lib.hid nA
          replace nres := Lib.hid nres
          replace nrA := Lib.hid nrA
          replace nkb := Lib.hid nkb
          clear hb3 hkA hres hrA hkb hg hb4 d0 d1 hc
          go_wp2
          go_roundw
          case rel => first | exact ⟨0 + 1, st2, by omega, by go_num, n3.out, nA.out, nres.out, nrA.out, nkb.out, Lib.hid hstep2.out.symm⟩ | exact ⟨_, _, _, _, _, _, _, _, ⟨0 + 1, st2, by omega, rfl, n3.out, nA.out, nres.out, nrA.out, nkb.out, Lib.hid hstep2.out.symm⟩, rfl⟩
          case measure => simp [intOf]
        · have hc' := sround_any st (18446744073709551615) wr
          rw [show n64 18446744073709551615 = 18446744073709551615 from rfl] at hc'
          have hstep2 : ((lasts (UInt64.ofNat l.length)).take (1 + 1)).foldl round (s) = round st (18446744073709551615) := hstep.out
          generalize round st (18446744073709551615) = st2 at *
          replace hstep2 := Lib.hid hstep2
          have hc := Lib.hid hc'
          clear hc' hstep
          have hix : ∀ w, (Instr.index 98 (.agg #[.int .u64 (n64 (UInt64.ofNat l.length)), .int .u64 18446744073709551615, .int .u64 0, .int .u64 0]) (.int .i64 1)).run Try.prog w = .ok (.int .u64 18446744073709551615) w := fun w => run_index_ints w Try.underlying98 Try.underlying28 hj0 hj1 _ 1 (by omega) _ rfl
          go_wp2_with fail
          refine hc.out.mono ?_
          rintro e w' ⟨rfl, hg⟩
          have hb4 := hb3.below hg hblt
          have z0 := hb4.cell 0
          have z1 := hb4.cell 1
          have zf0 := hb4.frozen 0
          have zf1 := hb4.frozen 1
          have n3 : Blk ((w'.setCell ⟨w1.heap.size, 0, none⟩ (.int .u64 (n64 st2.1))).setCell ⟨w1.heap.size, 1, none⟩ (.int .u64 (n64 st2.2))) w1.heap.size 83 #[.int .u64 (n64 st2.1), .int .u64 (n64 st2.2)] := (hb4.set_ 0 _).set_ 1 _
          have nA := ((hkA.below hg hkA.lt).far (p := ⟨w1.heap.size, 0, none⟩) (by show g ≠ w1.heap.size; omega) (.int .u64 (n64 st2.1))).far (p := ⟨w1.heap.size, 1, none⟩) (by show g ≠ w1.heap.size; omega) (.int .u64 (n64 st2.2))
          have nres := ((hres.below hg hres.lt).far (p := ⟨w1.heap.size, 0, none⟩) (by show w.heap.size ≠ w1.heap.size; omega) (.int .u64 (n64 st2.1))).far (p := ⟨w1.heap.size, 1, none⟩) (by show w.heap.size ≠ w1.heap.size; omega) (.int .u64 (n64 st2.2))
          have nrA := ((hrA.below (Below.mono hg (Nat.le_of_lt hblt))).setCell (p := ⟨w1.heap.size, 0, none⟩) (Nat.le_refl _) (.int .u64 (n64 st2.1))).setCell (p := ⟨w1.heap.size, 1, none⟩) (Nat.le_refl _) (.int .u64 (n64 st2.2))
          have nkb := kb_far (kb_far (hkb.gr hg) hw01 0 (.int .u64 (n64 st2.1))) hw01 1 (.int .u64 (n64 st2.2))
          replace n3 := Lib.hid n3
          replace nA := Lib.hid nA
          replace nres := Lib.hid nres
          replace nrA := Lib.hid nrA
          replace nkb := Lib.hid nkb
          clear hb3 hkA hres hrA hkb hg hb4 d0 d1 hc
          go_wp2
          go_roundw
          case rel => first | exact ⟨1 + 1, st2, by omega, by go_num, n3.out, nA.out, nres.out, nrA.out, nkb.out, Lib.hid hstep2.out.symm⟩ | exact ⟨_, _, _, _, _, _, _, _, ⟨1 + 1, st2, by omega, rfl, n3.out, nA.out, nres.out, nrA.out, nkb.out, Lib.hid hstep2.out.symm⟩, rfl⟩
          case measure => simp [intOf]
        · have hc' := sround_any st (0) wr
          rw [show n64 0 = 0 from rfl] at hc'
          have hstep2 : ((lasts (UInt64.ofNat l.length)).take (2 + 1)).foldl round (s) = round st (0) := hstep.out
          generalize round st (0) = st2 at *
          replace hstep2 := Lib.hid hstep2
          have hc := Lib.hid hc'
          clear hc' hstep
          have hix : ∀ w, (Instr.index 98 (.agg #[.int .u64 (n64 (UInt64.ofNat l.length)), .int .u64 18446744073709551615, .int .u64 0, .int .u64 0]) (.int .i64 2)).run Try.prog w = .ok (.int .u64 0) w := fun w => run_index_ints w Try.underlying98 Try.underlying28 hj0 hj1 _ 2 (by omega) _ rfl
          go_wp2_with fail
          refine hc.out.mono ?_
          rintro e w' ⟨rfl, hg⟩
          have hb4 := hb3.below hg hblt
          have z0 := hb4.cell 0
          have z1 := hb4.cell 1
          have zf0 := hb4.frozen 0
          have zf1 := hb4.frozen 1
          have n3 : Blk ((w'.setCell ⟨w1.heap.size, 0, none⟩ (.int .u64 (n64 st2.1))).setCell ⟨w1.heap.size, 1, none⟩ (.int .u64 (n64 st2.2))) w1.heap.size 83 #[.int .u64 (n64 st2.1), .int .u64 (n64 st2.2)] := (hb4.set_ 0 _).set_ 1 _
          have nA := ((hkA.below hg hkA.lt).far (p := ⟨w1.heap.size, 0, none⟩) (by show g ≠ w1.heap.size; omega) (.int .u64 (n64 st2.1))).far (p := ⟨w1.heap.size, 1, none⟩) (by show g ≠ w1.heap.size; omega) (.int .u64 (n64 st2.2))
          have nres := ((hres.below hg hres.lt).far (p := ⟨w1.heap.size, 0, none⟩) (by show w.heap.size ≠ w1.heap.size; omega) (.int .u64 (n64 st2.1))).far (p := ⟨w1.heap.size, 1, none⟩) (by show w.heap.size ≠ w1.heap.size; omega) (.int .u64 (n64 st2.2))
          have nrA := ((hrA.below (Below.mono hg (Nat.le_of_lt hblt))).setCell (p := ⟨w1.heap.size, 0, none⟩) (Nat.le_refl _) (.int .u64 (n64 st2.1))).setCell (p := ⟨w1.heap.size, 1, none⟩) (Nat.le_refl _) (.int .u64 (n64 st2.2))
          have nkb := kb_far (kb_far (hkb.gr hg) hw01 0 (.int .u64 (n64 st2.1))) hw01 1 (.int .u64 (n64 st2.2))
          replace n3 := Lib.hid n3
          replace nA := Lib.hid nA
          replace nres := Lib.hid nres
          replace nrA := Lib.hid nrA
          replace nkb := Lib.hid nkb
          clear hb3 hkA hres hrA hkb hg hb4 d0 d1 hc
          go_wp2
          go_roundw
          case rel => first | exact ⟨2 + 1, st2, by omega, by go_num, n3.out, nA.out, nres.out, nrA.out, nkb.out, Lib.hid hstep2.out.symm⟩ | exact ⟨_, _, _, _, _, _, _, _, ⟨2 + 1, st2, by omega, rfl, n3.out, nA.out, nres.out, nrA.out, nkb.out, Lib.hid hstep2.out.symm⟩, rfl⟩
          case measure => simp [intOf]
        · have hc' := sround_any st (0) wr
          rw [show n64 0 = 0 from rfl] at hc'
          have hstep2 : ((lasts (UInt64.ofNat l.length)).take (3 + 1)).foldl round (s) = round st (0) := hstep.out
          generalize round st (0) = st2 at *
          replace hstep2 := Lib.hid hstep2
          have hc := Lib.hid hc'
          clear hc' hstep
          have hix : ∀ w, (Instr.index 98 (.agg #[.int .u64 (n64 (UInt64.ofNat l.length)), .int .u64 18446744073709551615, .int .u64 0, .int .u64 0]) (.int .i64 3)).run Try.prog w = .ok (.int .u64 0) w := fun w => run_index_ints w Try.underlying98 Try.underlying28 hj0 hj1 _ 3 (by omega) _ rfl
          go_wp2_with fail
          refine hc.out.mono ?_
          rintro e w' ⟨rfl, hg⟩
          have hb4 := hb3.below hg hblt
          have z0 := hb4.cell 0
          have z1 := hb4.cell 1
          have zf0 := hb4.frozen 0
          have zf1 := hb4.frozen 1
          have n3 : Blk ((w'.setCell ⟨w1.heap.size, 0, none⟩ (.int .u64 (n64 st2.1))).setCell ⟨w1.heap.size, 1, none⟩ (.int .u64 (n64 st2.2))) w1.heap.size 83 #[.int .u64 (n64 st2.1), .int .u64 (n64 st2.2)] := (hb4.set_ 0 _).set_ 1 _
          have nA := ((hkA.below hg hkA.lt).far (p := ⟨w1.heap.size, 0, none⟩) (by show g ≠ w1.heap.size; omega) (.int .u64 (n64 st2.1))).far (p := ⟨w1.heap.size, 1, none⟩) (by show g ≠ w1.heap.size; omega) (.int .u64 (n64 st2.2))
          have nres := ((hres.below hg hres.lt).far (p := ⟨w1.heap.size, 0, none⟩) (by show w.heap.size ≠ w1.heap.size; omega) (.int .u64 (n64 st2.1))).far (p := ⟨w1.heap.size, 1, none⟩) (by show w.heap.size ≠ w1.heap.size; omega) (.int .u64 (n64 st2.2))
          have nrA := ((hrA.below (Below.mono hg (Nat.le_of_lt hblt))).setCell (p := ⟨w1.heap.size, 0, none⟩) (Nat.le_refl _) (.int .u64 (n64 st2.1))).setCell (p := ⟨w1.heap.size, 1, none⟩) (Nat.le_refl _) (.int .u64 (n64 st2.2))
          have nkb := kb_far (kb_far (hkb.gr hg) hw01 0 (.int .u64 (n64 st2.1))) hw01 1 (.int .u64 (n64 st2.2))
          replace n3 := Lib.hid n3
          replace nA := Lib.hid nA
          replace nres := Lib.hid nres
          replace nrA := Lib.hid nrA
          replace nkb := Lib.hid nkb
          clear hb3 hkA hres hrA hkb hg hb4 d0 d1 hc
          go_wp2
          go_roundw
          case rel => first | exact ⟨3 + 1, st2, by omega, by go_num, n3.out, nA.out, nres.out, nrA.out, nkb.out, Lib.hid hstep2.out.symm⟩ | exact ⟨_, _, _, _, _, _, _, _, ⟨3 + 1, st2, by omega, rfl, n3.out, nA.out, nres.out, nrA.out, nkb.out, Lib.hid hstep2.out.symm⟩, rfl⟩
          case measure => simp [intOf]
      · have hk' : k = 4 := by omega
        subst hk'
        have hfin : st = of l := by rw [hst.out, hof.out]; rfl
        have hwr := hkb.size
        have d0 := hb3.cell 0
        have d1 := hb3.cell 1
        have r0 := hres.cell 0
        have r1 := hres.cell 1
        have rf0 := hres.frozen 0
        have rf1 := hres.frozen 1
        have hres2 := (hres.set_ 0 (.int .u64 (n64 st.1))).set_ 1 (.int .u64 (n64 st.2))
        have z0 := hres2.cell 0
        have z1 := hres2.cell 1
        have nA := Lib.hid ((hkA.far (p := ⟨w.heap.size, 0, none⟩) (by show g ≠ w.heap.size; omega) (.int .u64 (n64 st.1))).far (p := ⟨w.heap.size, 1, none⟩) (by show g ≠ w.heap.size; omega) (.int .u64 (n64 st.2)))
        have nrA := Lib.hid (RB.setFar (RB.setFar (hrA.more (B' := wr.heap.size) (Nat.le_of_lt hb3.lt)) (p := ⟨w.heap.size, 0, none⟩) hAr (.int .u64 (n64 st.1))) (p := ⟨w.heap.size, 1, none⟩) hAr (.int .u64 (n64 st.2)))
        have nkb := Lib.hid (kb_far (kb_far hkb (Nat.le_refl _) 0 (.int .u64 (n64 st.1))) (Nat.le_refl _) 1 (.int .u64 (n64 st.2)))
        clear hb3 hkA hres hrA hkb hst hres2
        go_wp2
        rw [← hfin]
        refine bodyPost_ret (v := sumV st) (by simp [results, Try.results56, go_sem, z0, z1]) rfl ⟨rfl, ?_, nkb.out⟩
        unfold Met MetN
        rw [hre.out, hse.out]
        exact ⟨A, c, nA.out, by rw [World.size_setCell, World.size_setCell]; exact nrA.out, fun ad h => by have := hA ad h; rw [World.size_setCell, World.size_setCell]; omega, hc, hm⟩
  · have hr1 : 0 < r.length := by omega
    have h3lt := hb3.lt
    have hglt2 := hkA.lt
    have p0 := hb3.cell 0
    have p1 := hb3.cell 1
    have p3 := hkA.cell 3
    have ht : tailed s r = round s (word r) := if_neg hr0
    rw [ht] at hof
    clear ht
    go_wp2
    clear q0 q1 q3 q4
    generalize w1.alloc (.cells #[.int .u64 (n64 s.1), .int .u64 (n64 s.2)] 83) = wa at *
    refine region_grow (by kernel_rfl) (by kernel_rfl) ?_
    refine GW.p1 (sumV s) rfl trivial (kn0 (t := 3) (c := .pointer (some ⟨w1.heap.size, 0, none⟩)) (by kernel_rfl) rfl) (fun ρ w' hρ hg => by have h0 := (hg.cell (p := ⟨w1.heap.size, 0, none⟩) h3lt).trans p0; have h1 := (hg.cell (p := ⟨w1.heap.size, 1, none⟩) h3lt).trans p1; simp [execOp, hρ, go_sem, h0, h1]) ?_
    refine GW.mv rfl trivial (.inl rfl) (kn0 (t := 0) (c := .pointer (some ⟨g, 0, none⟩)) (by kernel_rfl) rfl) (eqv_lasts _) ?_
    refine GW.p1 (.pointer (some ⟨g, 0, none⟩)) rfl trivial (kn (t := 22) (j := 1) (by kernel_rfl)) (fun ρ w' hρ hg => by simp [execOp, hρ, go_sem]) ?_
    refine GW.p1 (.pointer (some ⟨g, 3, none⟩)) rfl trivial (kn (t := 23) (j := 2) (by kernel_rfl)) (fun ρ w' hρ hg => by simp [execOp, hρ, go_sem]) ?_
    refine GW.p1 (.slice A r.length c) rfl trivial (kn (t := 24) (j := 3) (by kernel_rfl)) (fun ρ w' hρ hg => by have h0 := (hg.cell (p := ⟨g, 3, none⟩) hglt2).trans p3; simp [execOp, hρ, go_sem, h0]) ?_
    refine GW.call1 (eqv (.int .u64 (n64 (word r)))) rfl trivial rfl Try.func66 (by kernel_rfl) (by kernel_rfl) (eqv_lasts _) (kn (t := 25) (j := 4) (by kernel_rfl)) (fun v w' hg hv => ?_) ?_
    · obtain rfl : v = _ := hv
      refine (word_any A c _ r w' (by omega) (hrA.below (Below.mono hg (Nat.le_of_lt h3lt)))).mono ?_
      rintro e w2 ⟨rfl, rfl⟩
      exact ⟨_, rfl, rfl, Gr.refl _⟩
    refine GW.call2 (eqv (sumV (round s (word r)))) rfl trivial rfl Try.func65 (by kernel_rfl) (by kernel_rfl) (eqv_lasts _) (kn (t := 21) (j := 0) (by kernel_rfl)) (kn (t := 26) (j := 5) (by kernel_rfl)) (fun v u w' hg hv hu => ?_) ?_
    · obtain rfl : v = _ := hv
      obtain rfl : u = _ := hu
      refine (sround_any s _ w').mono ?_
      rintro e w2 ⟨rfl, hg2⟩
      exact ⟨_, rfl, rfl, hg2⟩
    refine GW.tail (m := 7) (by simp) (by kernel_rfl) (by kernel_rfl) (fun w' hg => ?_)
    intro v0 _ v1 _ v2 _ v3 _ v4 _ v5 _ v6 h6
    obtain rfl : v6 = (sumV (round s (word r))) := h6
    simp only [GFin, List.take_succ_cons, List.take_zero, List.drop_succ_cons, List.drop_zero, Act.put, List.setIfInBounds_toArray, List.set_cons_succ, List.set_cons_zero]
    generalize round s (word r) = t at *
    have hb3' := hb3.below hg h3lt
    have z0 := hb3'.cell 0
    have z1 := hb3'.cell 1
    have zf0 := hb3'.frozen 0
    have zf1 := hb3'.frozen 1
    have hb4 : Blk ((w'.setCell ⟨w1.heap.size, 0, none⟩ (.int .u64 (n64 t.1))).setCell ⟨w1.heap.size, 1, none⟩ (.int .u64 (n64 t.2))) w1.heap.size 83 #[.int .u64 (n64 t.1), .int .u64 (n64 t.2)] := (hb3'.set_ 0 _).set_ 1 _
    have hkA' := ((hkA.below hg hglt2).far (p := ⟨w1.heap.size, 0, none⟩) (by show g ≠ w1.heap.size; omega) (.int .u64 (n64 t.1))).far (p := ⟨w1.heap.size, 1, none⟩) (by show g ≠ w1.heap.size; omega) (.int .u64 (n64 t.2))
    have hres' := ((hres.below hg hres.lt).far (p := ⟨w1.heap.size, 0, none⟩) (by show w.heap.size ≠ w1.heap.size; omega) (.int .u64 (n64 t.1))).far (p := ⟨w1.heap.size, 1, none⟩) (by show w.heap.size ≠ w1.heap.size; omega) (.int .u64 (n64 t.2))
    have hrA' := ((hrA.below (Below.mono hg (Nat.le_of_lt h3lt))).setCell (p := ⟨w1.heap.size, 0, none⟩) (Nat.le_refl _) (.int .u64 (n64 t.1))).setCell (p := ⟨w1.heap.size, 1, none⟩) (Nat.le_refl _) (.int .u64 (n64 t.2))
    have hkb' := kb_far (kb_far (hkb.gr hg) (by omega) 0 (.int .u64 (n64 t.1))) (by omega) 1 (.int .u64 (n64 t.2))
    have y4 := hkA'.cell 4
    clear hb3 hb3' hkA hres hrA hkb hg p0 p1 p3
    have hb3 := Lib.hid hb4
    have hkA := Lib.hid hkA'
    have hres := Lib.hid hres'
    have hrA := Lib.hid hrA'
    have hkb := Lib.hid hkb'
    clear hb4 hkA' hres' hrA' hkb'
    go_wp2
    clear z0 z1 zf0 zf1 y4
    generalize (w'.setCell ⟨w1.heap.size, 0, none⟩ (.int .u64 (n64 t.1))).setCell ⟨w1.heap.size, 1, none⟩ (.int .u64 (n64 t.2)) = wb at *
    go_loopw [34] (fun i wr => ∃ (k : Nat) (st : St), k ≤ 4 ∧ i = .int .i64 k ∧ Blk wr w1.heap.size 83 #[.int .u64 (n64 st.1), .int .u64 (n64 st.2)] ∧ Blk wr g 85 #[.int .u64 (n64 s.1), .int .u64 (n64 s.2), .bool true, .slice A (r).length c, .int .i64 (l.length : Int)] ∧ Blk wr w.heap.size 30 #[.int .u64 0, .int .u64 0] ∧ RB wr w1.heap.size A (r) ∧ Kb g w wr ∧ Hid (st = ((lasts (UInt64.ofNat l.length)).take k).foldl round (t))) (fun i _ => 4 - (intOf i).toNat)
    case atStart => exact ⟨0, t, Nat.zero_le _, rfl, hb3.out, hkA.out, hres.out, hrA.out, hkb.out, Lib.hid rfl⟩
    case round =>
      clear hb3 hkA hres hrA hkb
      obtain ⟨k, st, hk, rfl, hb3, hkA, hres, hrA, hkb, hst⟩ := hrel
      by_cases h : k < 4
      · have hstep := lasts_step (t) (UInt64.ofNat l.length) k h
        rw [← hst.out] at hstep
        replace hstep := Lib.hid hstep
        clear hst
        have d0 := hb3.cell 0
        have d1 := hb3.cell 1
        have hblt := hb3.lt
        have hkq : k = 0 ∨ k = 1 ∨ k = 2 ∨ k = 3 := by omega
        rcases hkq with rfl | rfl | rfl | rfl
        · have hc' := sround_any st (UInt64.ofNat l.length) wr
          have hstep2 : ((lasts (UInt64.ofNat l.length)).take (0 + 1)).foldl round (t) = round st (UInt64.ofNat l.length) := hstep.out
          generalize round st (UInt64.ofNat l.length) = st2 at *
          replace hstep2 := Lib.hid hstep2
          have hc := Lib.hid hc'
          clear hc' hstep
          have hix : ∀ w, (Instr.index 98 (.agg #[.int .u64 (n64 (UInt64.ofNat l.length)), .int .u64 18446744073709551615, .int .u64 0, .int .u64 0]) (.int .i64 0)).run Try.prog w = .ok (.int .u64 (n64 (UInt64.ofNat l.length))) w := fun w => run_index_ints w Try.underlying98 Try.underlying28 hj0 hj1 _ 0 (by omega) _ rfl
          go_wp2_with fail
          refine hc.out.mono ?_
          rintro e w' ⟨rfl, hg⟩
          have hb4 := hb3.below hg hblt
          have z0 := hb4.cell 0
          have z1 := hb4.cell 1
          have zf0 := hb4.frozen 0
          have zf1 := hb4.frozen 1
          have n3 : Blk ((w'.setCell ⟨w1.heap.size, 0, none⟩ (.int .u64 (n64 st2.1))).setCell ⟨w1.heap.size, 1, none⟩ (.int .u64 (n64 st2.2))) w1.heap.size 83 #[.int .u64 (n64 st2.1), .int .u64 (n64 st2.2)] := (hb4.set_ 0 _).set_ 1 _
          have nA := ((hkA.below hg hkA.lt).far (p := ⟨w1.heap.size, 0, none⟩) (by show g ≠ w1.heap.size; omega) (.int .u64 (n64 st2.1))).far (p := ⟨w1.heap.size, 1, none⟩) (by show g ≠ w1.heap.size; omega) (.int .u64 (n64 st2.2))
          have nres := ((hres.below hg hres.lt).far (p := ⟨w1.heap.size, 0, none⟩) (by show w.heap.size ≠ w1.heap.size; omega) (.int .u64 (n64 st2.1))).far (p := ⟨w1.heap.size, 1, none⟩) (by show w.heap.size ≠ w1.heap.size; omega) (.int .u64 (n64 st2.2))
          have nrA := ((hrA.below (Below.mono hg (Nat.le_of_lt hblt))).setCell (p := ⟨w1.heap.size, 0, none⟩) (Nat.le_refl _) (.int .u64 (n64 st2.1))).setCell (p := ⟨w1.heap.size, 1, none⟩) (Nat.le_refl _) (.int .u64 (n64 st2.2))
          have nkb := kb_far (kb_far (hkb.gr hg) hw01 0 (.int .u64 (n64 st2.1))) hw01 1 (.int .u64 (n64 st2.2))
          replace n3 := Lib.hid n3
          replace nA := Lib.hid nA
          replace nres := Lib.hid nres
          replace nrA := Lib.hid nrA
          replace nkb := Lib.hid nkb
          clear hb3 hkA hres hrA hkb hg hb4 d0 d1 hc
          go_wp2
          go_roundw
          case rel => first | exact ⟨0 + 1, st2, by omega, by go_num, n3.out, nA.out, nres.out, nrA.out, nkb.out, Lib.hid hstep2.out.symm⟩ | exact ⟨_, _, _, _, _, _, _, _, ⟨0 + 1, st2, by omega, rfl, n3.out, nA.out, nres.out, nrA.out, nkb.out, Lib.hid hstep2.out.symm⟩, rfl⟩
          case measure => simp [intOf]
        · have hc' := sround_any st (18446744073709551615) wr
          rw [show n64 18446744073709551615 = 18446744073709551615 from rfl] at hc'
          have hstep2 : ((lasts (UInt64.ofNat l.length)).take (1 + 1)).foldl round (t) = round st (18446744073709551615) := hstep.out
          generalize round st (18446744073709551615) = st2 at *
          replace hstep2 := Lib.hid hstep2
          have hc := Lib.hid hc'
          clear hc' hstep
          have hix : ∀ w, (Instr.index 98 (.agg #[.int .u64 (n64 (UInt64.ofNat l.length)), .int .u64 18446744073709551615, .int .u64 0, .int .u64 0]) (.int .i64 1)).run Try.prog w = .ok (.int .u64 18446744073709551615) w := fun w => run_index_ints w Try.underlying98 Try.underlying28 hj0 hj1 _ 1 (by omega) _ rfl
          go_wp2_with fail
          refine hc.out.mono ?_
          rintro e w' ⟨rfl, hg⟩
          have hb4 := hb3.below hg hblt
          have z0 := hb4.cell 0
          have z1 := hb4.cell 1
          have zf0 := hb4.frozen 0
          have zf1 := hb4.frozen 1
          have n3 : Blk ((w'.setCell ⟨w1.heap.size, 0, none⟩ (.int .u64 (n64 st2.1))).setCell ⟨w1.heap.size, 1, none⟩ (.int .u64 (n64 st2.2))) w1.heap.size 83 #[.int .u64 (n64 st2.1), .int .u64 (n64 st2.2)] := (hb4.set_ 0 _).set_ 1 _
          have nA := ((hkA.below hg hkA.lt).far (p := ⟨w1.heap.size, 0, none⟩) (by show g ≠ w1.heap.size; omega) (.int .u64 (n64 st2.1))).far (p := ⟨w1.heap.size, 1, none⟩) (by show g ≠ w1.heap.size; omega) (.int .u64 (n64 st2.2))
          have nres := ((hres.below hg hres.lt).far (p := ⟨w1.heap.size, 0, none⟩) (by show w.heap.size ≠ w1.heap.size; omega) (.int .u64 (n64 st2.1))).far (p := ⟨w1.heap.size, 1, none⟩) (by show w.heap.size ≠ w1.heap.size; omega) (.int .u64 (n64 st2.2))
          have nrA := ((hrA.below (Below.mono hg (Nat.le_of_lt hblt))).setCell (p := ⟨w1.heap.size, 0, none⟩) (Nat.le_refl _) (.int .u64 (n64 st2.1))).setCell (p := ⟨w1.heap.size, 1, none⟩) (Nat.le_refl _) (.int .u64 (n64 st2.2))
          have nkb := kb_far (kb_far (hkb.gr hg) hw01 0 (.int .u64 (n64 st2.1))) hw01 1 (.int .u64 (n64 st2.2))
          replace n3 := Lib.hid n3
          replace nA := Lib.hid nA
          replace nres := Lib.hid nres
          replace nrA := Lib.hid nrA
          replace nkb := Lib.hid nkb
          clear hb3 hkA hres hrA hkb hg hb4 d0 d1 hc
          go_wp2
          go_roundw
          case rel => first | exact ⟨1 + 1, st2, by omega, by go_num, n3.out, nA.out, nres.out, nrA.out, nkb.out, Lib.hid hstep2.out.symm⟩ | exact ⟨_, _, _, _, _, _, _, _, ⟨1 + 1, st2, by omega, rfl, n3.out, nA.out, nres.out, nrA.out, nkb.out, Lib.hid hstep2.out.symm⟩, rfl⟩
          case measure => simp [intOf]
        · have hc' := sround_any st (0) wr
          rw [show n64 0 = 0 from rfl] at hc'
          have hstep2 : ((lasts (UInt64.ofNat l.length)).take (2 + 1)).foldl round (t) = round st (0) := hstep.out
          generalize round st (0) = st2 at *
          replace hstep2 := Lib.hid hstep2
          have hc := Lib.hid hc'
          clear hc' hstep
          have hix : ∀ w, (Instr.index 98 (.agg #[.int .u64 (n64 (UInt64.ofNat l.length)), .int .u64 18446744073709551615, .int .u64 0, .int .u64 0]) (.int .i64 2)).run Try.prog w = .ok (.int .u64 0) w := fun w => run_index_ints w Try.underlying98 Try.underlying28 hj0 hj1 _ 2 (by omega) _ rfl
          go_wp2_with fail
          refine hc.out.mono ?_
          rintro e w' ⟨rfl, hg⟩
          have hb4 := hb3.below hg hblt
          have z0 := hb4.cell 0
          have z1 := hb4.cell 1
          have zf0 := hb4.frozen 0
          have zf1 := hb4.frozen 1
          have n3 : Blk ((w'.setCell ⟨w1.heap.size, 0, none⟩ (.int .u64 (n64 st2.1))).setCell ⟨w1.heap.size, 1, none⟩ (.int .u64 (n64 st2.2))) w1.heap.size 83 #[.int .u64 (n64 st2.1), .int .u64 (n64 st2.2)] := (hb4.set_ 0 _).set_ 1 _
          have nA := ((hkA.below hg hkA.lt).far (p := ⟨w1.heap.size, 0, none⟩) (by show g ≠ w1.heap.size; omega) (.int .u64 (n64 st2.1))).far (p := ⟨w1.heap.size, 1, none⟩) (by show g ≠ w1.heap.size; omega) (.int .u64 (n64 st2.2))
          have nres := ((hres.below hg hres.lt).far (p := ⟨w1.heap.size, 0, none⟩) (by show w.heap.size ≠ w1.heap.size; omega) (.int .u64 (n64 st2.1))).far (p := ⟨w1.heap.size, 1, none⟩) (by show w.heap.size ≠ w1.heap.size; omega) (.int .u64 (n64 st2.2))
          have nrA := ((hrA.below (Below.mono hg (Nat.le_of_lt hblt))).setCell (p := ⟨w1.heap.size, 0, none⟩) (Nat.le_refl _) (.int .u64 (n64 st2.1))).setCell (p := ⟨w1.heap.size, 1, none⟩) (Nat.le_refl _) (.int .u64 (n64 st2.2))
          have nkb := kb_far (kb_far (hkb.gr hg) hw01 0 (.int .u64 (n64 st2.1))) hw01 1 (.int .u64 (n64 st2.2))
          replace n3 := Lib.hid n3
          replace nA := Lib.hid nA
          replace nres := Lib.hid nres
          replace nrA := Lib.hid nrA
          replace nkb := Lib.hid nkb
          clear hb3 hkA hres hrA hkb hg hb4 d0 d1 hc
          go_wp2
          go_roundw
          case rel => first | exact ⟨2 + 1, st2, by omega, by go_num, n3.out, nA.out, nres.out, nrA.out, nkb.out, Lib.hid hstep2.out.symm⟩ | exact ⟨_, _, _, _, _, _, _, _, ⟨2 + 1, st2, by omega, rfl, n3.out, nA.out, nres.out, nrA.out, nkb.out, Lib.hid hstep2.out.symm⟩, rfl⟩
          case measure => simp [intOf]
        · have hc' := sround_any st (0) wr
          rw [show n64 0 = 0 from rfl] at hc'
          have hstep2 : ((lasts (UInt64.ofNat l.length)).take (3 + 1)).foldl round (t) = round st (0) := hstep.out
          generalize round st (0) = st2 at *
          replace hstep2 := Lib.hid hstep2
          have hc := Lib.hid hc'
          clear hc' hstep
          have hix : ∀ w, (Instr.index 98 (.agg #[.int .u64 (n64 (UInt64.ofNat l.length)), .int .u64 18446744073709551615, .int .u64 0, .int .u64 0]) (.int .i64 3)).run Try.prog w = .ok (.int .u64 0) w := fun w => run_index_ints w Try.underlying98 Try.underlying28 hj0 hj1 _ 3 (by omega) _ rfl
          go_wp2_with fail
          refine hc.out.mono ?_
          rintro e w' ⟨rfl, hg⟩
          have hb4 := hb3.below hg hblt
          have z0 := hb4.cell 0
          have z1 := hb4.cell 1
          have zf0 := hb4.frozen 0
          have zf1 := hb4.frozen 1
          have n3 : Blk ((w'.setCell ⟨w1.heap.size, 0, none⟩ (.int .u64 (n64 st2.1))).setCell ⟨w1.heap.size, 1, none⟩ (.int .u64 (n64 st2.2))) w1.heap.size 83 #[.int .u64 (n64 st2.1), .int .u64 (n64 st2.2)] := (hb4.set_ 0 _).set_ 1 _
          have nA := ((hkA.below hg hkA.lt).far (p := ⟨w1.heap.size, 0, none⟩) (by show g ≠ w1.heap.size; omega) (.int .u64 (n64 st2.1))).far (p := ⟨w1.heap.size, 1, none⟩) (by show g ≠ w1.heap.size; omega) (.int .u64 (n64 st2.2))
          have nres := ((hres.below hg hres.lt).far (p := ⟨w1.heap.size, 0, none⟩) (by show w.heap.size ≠ w1.heap.size; omega) (.int .u64 (n64 st2.1))).far (p := ⟨w1.heap.size, 1, none⟩) (by show w.heap.size ≠ w1.heap.size; omega) (.int .u64 (n64 st2.2))
          have nrA := ((hrA.below (Below.mono hg (Nat.le_of_lt hblt))).setCell (p := ⟨w1.heap.size, 0, none⟩) (Nat.le_refl _) (.int .u64 (n64 st2.1))).setCell (p := ⟨w1.heap.size, 1, none⟩) (Nat.le_refl _) (.int .u64 (n64 st2.2))
          have nkb := kb_far (kb_far (hkb.gr hg) hw01 0 (.int .u64 (n64 st2.1))) hw01 1 (.int .u64 (n64 st2.2))
          replace n3 := Lib.hid n3
          replace nA := Lib.hid nA
          replace nres := Lib.hid nres
          replace nrA := Lib.hid nrA
          replace nkb := Lib.hid nkb
          clear hb3 hkA hres hrA hkb hg hb4 d0 d1 hc
          go_wp2
          go_roundw
          case rel => first | exact ⟨3 + 1, st2, by omega, by go_num, n3.out, nA.out, nres.out, nrA.out, nkb.out, Lib.hid hstep2.out.symm⟩ | exact ⟨_, _, _, _, _, _, _, _, ⟨3 + 1, st2, by omega, rfl, n3.out, nA.out, nres.out, nrA.out, nkb.out, Lib.hid hstep2.out.symm⟩, rfl⟩
          case measure => simp [intOf]
      · have hk' : k = 4 := by omega
        subst hk'
        have hfin : st = of l := by rw [hst.out, hof.out]; rfl
        have hwr := hkb.size
        have d0 := hb3.cell 0
        have d1 := hb3.cell 1
        have r0 := hres.cell 0
        have r1 := hres.cell 1
        have rf0 := hres.frozen 0
        have rf1 := hres.frozen 1
        have hres2 := (hres.set_ 0 (.int .u64 (n64 st.1))).set_ 1 (.int .u64 (n64 st.2))
        have z0 := hres2.cell 0
        have z1 := hres2.cell 1
        have nA := Lib.hid ((hkA.far (p := ⟨w.heap.size, 0, none⟩) (by show g ≠ w.heap.size; omega) (.int .u64 (n64 st.1))).far (p := ⟨w.heap.size, 1, none⟩) (by show g ≠ w.heap.size; omega) (.int .u64 (n64 st.2)))
        have nrA := Lib.hid (RB.setFar (RB.setFar (hrA.more (B' := wr.heap.size) (Nat.le_of_lt hb3.lt)) (p := ⟨w.heap.size, 0, none⟩) hAr (.int .u64 (n64 st.1))) (p := ⟨w.heap.size, 1, none⟩) hAr (.int .u64 (n64 st.2)))
        have nkb := Lib.hid (kb_far (kb_far hkb (Nat.le_refl _) 0 (.int .u64 (n64 st.1))) (Nat.le_refl _) 1 (.int .u64 (n64 st.2)))
        clear hb3 hkA hres hrA hkb hst hres2
        go_wp2
        rw [← hfin]
        refine bodyPost_ret (v := sumV st) (by simp [results, Try.results56, go_sem, z0, z1]) rfl ⟨rfl, ?_, nkb.out⟩
        unfold Met MetN
        rw [hre.out, hse.out]
        exact ⟨A, c, nA.out, by rw [World.size_setCell, World.size_setCell]; exact nrA.out, fun ad h => by have := hA ad h; rw [World.size_setCell, World.size_setCell]; omega, hc, hm⟩
end Mix
end Go.Proofs.Yteadcblmomngpaa
namespace Go.Proofs.Yteadcblmomngpaa
open Go Go.RowKit W
namespace Mix
set_option maxRecDepth 100000 in
set_option maxHeartbeats 800000 in
theorem of_any (A : Option Addr) (c : Nat) (l : List UInt8) (w : World) (hs : l.length ≤ 1099511627776) (hc : l.length ≤ c) (hr : RB w w.heap.size A l) :
    Calls Try.prog 34 #[.slice A l.length c] w fun e w' => e = .returned (sumV (of l)) ∧ Gr w w' := by
  obtain ⟨w1, hw1⟩ : ∃ w1, w1 = (w.alloc (.cells #[.int .u64 0, .int .u64 0] 30)).alloc (.cells #[.int .u64 0, .int .u64 0, .bool false, .slice none 0 0, .int .i64 0] 85) := ⟨_, rfl⟩
  have hb0 := (Blk.new w 30 #[.int .u64 0, .int .u64 0]).alloc (.cells #[.int .u64 0, .int .u64 0, .bool false, .slice none 0 0, .int .i64 0] 85)
  have hb1 := Blk.new (w.alloc (.cells #[.int .u64 0, .int .u64 0] 30)) 85 #[.int .u64 0, .int .u64 0, .bool false, .slice none 0 0, .int .i64 0]
  rw [World.size_alloc] at hb1
  have hg1 : Gr w ((w.alloc (.cells #[.int .u64 0, .int .u64 0] 30)).alloc (.cells #[.int .u64 0, .int .u64 0, .bool false, .slice none 0 0, .int .i64 0] 85)) := ((Gr.refl w).alloc _).alloc _
  rw [← hw1] at hb0 hb1 hg1
  have hr1 := (hr.below hg1).more (B' := w.heap.size + 1) (by omega)
  have hwr := Lib.hid (write_any (w.heap.size + 1) [] l A c w1 (.inr ⟨hb1, rfl⟩) hr1 (by simp; omega) hc)
  have hlt0 := hb0.lt
  have hlt1 := hb1.lt
  have hb0' := Lib.hid hb0
  have hg1' := Lib.hid hg1
  have hw1' := Lib.hid hw1
  clear hb0 hb1 hg1 hr hr1 hw1
  go_enter Try.func34, Try.ntmps34
  go_wp2_with fail
  rw [← hw1'.out]
  refine hwr.out.mono ?_
  rintro e w2 ⟨rfl, hm2, hk2⟩
  have hsum := Lib.hid (hsum_any (w.heap.size + 1) ([] ++ l) w2 (.inl hm2) (by simp; omega))
  have hb2 := Lib.hid (hk2.blk hb0'.out (by omega))
  have hbel2 := Lib.hid (Below.trans (show Below w.heap.size w w1 from hg1'.out) (Below.mono (hk2.below (by omega)) (Nat.le_succ _)))
  have hsz2 := hk2.size
  clear hm2 hk2 hwr hw1' hb0' hg1'
  go_wp2_with fail
  refine hsum.out.mono ?_
  rintro e w3 ⟨rfl, hm3, hk3⟩
  have hb3 := hk3.blk hb2.out (by omega)
  have hbel3 := Below.trans hbel2.out (Below.mono (hk3.below (by omega)) (Nat.le_succ _))
  rw [List.nil_append]
  obtain ⟨y, z, hyz⟩ : ∃ y z, of l = (y, z) := ⟨_, _, rfl⟩
  rw [hyz]
  have hyz' := Lib.hid hyz
  have f0 := hb3.frozen 0
  have f1 := hb3.frozen 1
  have e0 := hb3.cell 0
  have e1 := hb3.cell 1
  have hm2 : Blk ((w3.setCell ⟨w.heap.size, 0, none⟩ (.int .u64 (n64 y))).setCell ⟨w.heap.size, 1, none⟩ (.int .u64 (n64 z))) w.heap.size 30 #[.int .u64 (n64 y), .int .u64 (n64 z)] := (hb3.set_ 0 _).set_ 1 _
  have z0 := hm2.cell 0
  have z1 := hm2.cell 1
  have hgf := Lib.hid (Below.setCell (Below.setCell hbel3 (p := ⟨w.heap.size, 0, none⟩) (Nat.le_refl _) (.int .u64 (n64 y))) (p := ⟨w.heap.size, 1, none⟩) (Nat.le_refl _) (.int .u64 (n64 z)))
  clear hyz hm2 hm3 hk3 hb3 hbel3 hb2 hbel2
  go_wp2
  refine bodyPost_ret (v := sumV (y, z)) (by simp [results, Try.results34, go_sem, z0, z1]) rfl ⟨by rw [hyz'.out], hgf.out⟩
end Mix
end Go.Proofs.Yteadcblmomngpaa
namespace Go.Proofs.Yteadcblmomngpaa
open Go Go.RowKit W
namespace Vint
theorem rest7 (n : UInt64) : (n % 128).toUInt8 = UInt8.ofNat (n.toNat % 128) := by
  apply UInt8.toNat_inj.1
  simp [UInt64.toNat_mod]
theorem rest7up (n : UInt64) : (n % 128).toUInt8 + 128 = UInt8.ofNat (n.toNat % 128 + 128) := by
  apply UInt8.toNat_inj.1
  rw [UInt8.toNat_add, rest7]
  simp
set_option maxRecDepth 100000 in
set_option maxHeartbeats 2000000 in
theorem refNum_any (n0 : UInt64) (w : World) : Calls Try.prog 50 #[.int .u64 (n64 n0)] w fun e w' => e = .returned (str (num n0.toNat)) ∧ Gr w w' := by
  have hn0 : (num n0.toNat).length ≤ 10 := num_length 9 _ (Nat.lt_of_lt_of_le n0.toNat_lt (by decide))
  have hown0 := Lib.hid (OB.made (E := 5) (base := w.heap.size) w (Nat.le_refl _))
  have hg0 := Lib.hid ((Gr.refl w).alloc (.cells #[] 5))
  have hst : n0.toNat < 128 ^ 10 := Nat.lt_of_lt_of_le n0.toNat_lt (by decide)
  go_enter Try.func50, Try.ntmps50
  go_wp2
  go_loopw [0, 3, 4] (fun x b j wr => ∃ (n : UInt64) (o : List UInt8) (i : Nat), i ≤ 10 ∧ x = .int .u64 (n64 n) ∧ j = .int .i64 (i : Int) ∧ OB 5 wr w.heap.size b o ∧ Gr w wr ∧ o.length ≤ 10 ∧ n.toNat < 128 ^ (10 - i) ∧ (i = 0 ∨ 0 < n.toNat) ∧ Hid (o ++ num n.toNat = num n0.toNat)) (fun _ _ j _ => 10 - (intOf j).toNat)
  case atStart => exact ⟨n0, [], 0, by omega, rfl, rfl, hown0.out, hg0.out, by simp, hst, .inl rfl, Lib.hid rfl⟩
  case round =>
    obtain ⟨n, o, i, hi, rfl, rfl, hown, hg, hol, hlt, hpos, ho⟩ := hrel
    clear hown0 hg0 hst
    obtain ⟨A0, c0, rfl, hcl, hcm⟩ := hown.shape
    have hgs := hg.size
    have hon : o.length + (num n.toNat).length = (num n0.toNat).length := by
      have := congrArg List.length ho.out
      rwa [List.length_append] at this
    have hnp := num_pos n.toNat
    by_cases h10 : i < 10
    · have h10i : (i : Int) < 10 := by omega
      by_cases h : n.toNat < 128
      · have hz : (n64 (n / 128) == 0) = true := by simp [n64, UInt64.toNat_div]; omega
        have ho2 : Hid (o ++ [(n % 128).toUInt8] = num n0.toNat) := by
          have h1 := ho.out
          rw [num_small h] at h1
          rw [rest7, Nat.mod_eq_of_lt h]
          exact Lib.hid h1
        have hown2 := Lib.hid (hown.alloc (.cells #[.int .u8 (n8 ((n % 128).toUInt8))] 5))
        have hg2 := Lib.hid (Below.alloc hg hgs (.cells #[.int .u8 (n8 ((n % 128).toUInt8))] 5))
        have hrb := Lib.hid (RB.new1 wr 5 (n % 128).toUInt8)
        clear hown hg ho hlt hpos
        go_wp2_with (first
          | (refine wpList_append_bytes _ rfl (.tmp 18) (.tmp 20) 63 rfl w.heap.size 5 Try.underlying63 byteType _ o rfl (by exact hown2.out) (wr.heap.size + 1) _ _ _ [(n % 128).toUInt8] rfl rfl (by exact hrb.out) (by simp; omega) (by simp; omega) (o ++ [(n % 128).toUInt8]) rfl (o ++ [(n % 128).toUInt8]).length rfl ?_; intro A3 c3 w3 hown4 hbel4; have hcv := run_bytes_string (P := Try.prog) w3 63 9 5 Try.underlying63 byteType.1 Try.underlying9 _ A3 c3 (o.length + 1) (o ++ [(n % 128).toUInt8]) (by simp) hown4.rb)
          | (refine step_append_bytes _ rfl (.tmp 18) (.tmp 20) 63 rfl w.heap.size 5 Try.underlying63 byteType _ o rfl (by exact hown2.out) (wr.heap.size + 1) _ _ _ [(n % 128).toUInt8] rfl rfl (by exact hrb.out) (by simp; omega) (by simp; omega) (o ++ [(n % 128).toUInt8]) rfl (o ++ [(n % 128).toUInt8]).length rfl ?_; intro A3 c3 w3 hown4 hbel4; have hcv := run_bytes_string (P := Try.prog) w3 63 9 5 Try.underlying63 byteType.1 Try.underlying9 _ A3 c3 (o.length + 1) (o ++ [(n % 128).toUInt8]) (by simp) hown4.rb))
        go_ret
        rw [← ho2.out]
        exact ⟨rfl, Below.trans hg2.out hbel4⟩
      · have hz : (n64 (n / 128) == 0) = false := by simp [n64, UInt64.toNat_div]; omega
        have ho2 : Hid ((o ++ [(n % 128).toUInt8 + 128]) ++ num (n / 128).toNat = num n0.toNat) := by
          have h1 := ho.out
          rw [num_big h] at h1
          rw [rest7up, UInt64.toNat_div, List.append_assoc]
          exact Lib.hid h1
        have hlt2 : (n / 128).toNat < 128 ^ (10 - (i + 1)) := by
          rw [UInt64.toNat_div]
          have e : 10 - i = 10 - (i + 1) + 1 := by omega
          rw [e, Nat.pow_succ] at hlt
          show n.toNat / 128 < _
          exact Nat.div_lt_of_lt_mul (by rw [Nat.mul_comm]; exact hlt)
        have hpos2 : 0 < (n / 128).toNat := by rw [UInt64.toNat_div]; show 0 < n.toNat / 128; omega
        replace hlt2 := Lib.hid hlt2
        replace hpos2 := Lib.hid hpos2
        have hown2 := Lib.hid (hown.alloc (.cells #[.int .u8 (n8 ((n % 128).toUInt8 + 128))] 5))
        have hg2 := Lib.hid (Below.alloc hg hgs (.cells #[.int .u8 (n8 ((n % 128).toUInt8 + 128))] 5))
        have hrb := Lib.hid (RB.new1 wr 5 ((n % 128).toUInt8 + 128))
        have hnum2 := Lib.hid (num_pos (n / 128).toNat)
        clear hown hg ho hlt hpos
        go_wp2_with (first
          | (refine wpList_append_bytes _ rfl (.tmp 24) (.tmp 27) 63 rfl w.heap.size 5 Try.underlying63 byteType _ o rfl (by exact hown2.out) (wr.heap.size + 1) _ _ _ [(n % 128).toUInt8 + 128] rfl rfl (by exact hrb.out) (by simp; omega) (by simp; omega) (o ++ [(n % 128).toUInt8 + 128]) rfl (o ++ [(n % 128).toUInt8 + 128]).length rfl ?_; intro A3 c3 w3 hown4 hbel4)
          | (refine step_append_bytes _ rfl (.tmp 24) (.tmp 27) 63 rfl w.heap.size 5 Try.underlying63 byteType _ o rfl (by exact hown2.out) (wr.heap.size + 1) _ _ _ [(n % 128).toUInt8 + 128] rfl rfl (by exact hrb.out) (by simp; omega) (by simp; omega) (o ++ [(n % 128).toUInt8 + 128]) rfl (o ++ [(n % 128).toUInt8 + 128]).length rfl ?_; intro A3 c3 w3 hown4 hbel4))
        go_roundw
        case rel =>
          have h4 := hown4
          rw [List.length_append] at h4
          exact ⟨n / 128, _, i + 1, by omega, rfl, by go_num, h4, Below.trans hg2.out hbel4, by simp; omega, hlt2.out, .inr hpos2.out, ho2⟩
        case measure => simp [intOf]; omega
    · exfalso
      obtain rfl : i = 10 := by omega
      have : n.toNat < 1 := hlt
      omega
theorem refText_any (s : List UInt8) (w : World) (hs : s.length ≤ 1099511627776) : Calls Try.prog 48 #[str s] w fun e w' => e = .returned (str (text s)) ∧ Gr w w' := by
  have hsn : (UInt64.ofNat s.length).toNat = s.length := by rw [UInt64.toNat_ofNat']; omega
  have hnl : (num s.length).length ≤ 10 := num_length 9 _ (Nat.lt_of_le_of_lt hs (by decide))
  have hc := Lib.hid (by have h := refNum_any (UInt64.ofNat s.length) w; rw [hsn] at h; exact h : Calls Try.prog 50 #[.int .u64 (n64 (UInt64.ofNat s.length))] w fun e w' => e = .returned (str (num s.length)) ∧ Gr w w')
  have ht : Hid (text s = num s.length ++ s) := Lib.hid rfl
  generalize num s.length = L at *
  clear hsn
  go_enter Try.func48, Try.ntmps48
  go_wp2_with fail
  refine hc.out.mono ?_
  rintro e w1 ⟨rfl, hg1⟩
  replace hg1 := Lib.hid hg1
  clear hc
  go_wp2
  go_ret
  rw [ht.out]
  exact ⟨rfl, hg1.out⟩
end Vint
end Go.Proofs.Yteadcblmomngpaa
namespace Go.Proofs.Yteadcblmomngpaa
open Go Go.RowKit W
namespace Vint
def byteB (x : UInt64) (i : Nat) : UInt8 := UInt8.ofNat (x.toNat / 256 ^ (7 - i))
/-- The eight bytes of a word, from place j on; zeros ahead. -/
def upB (x : UInt64) (j : Nat) : List UInt8 := (List.range 8).map fun i => if j ≤ i then byteB x i else 0
theorem upB_length (x : UInt64) (j : Nat) : (upB x j).length = 8 := by simp [upB]
theorem upB_all (x : UInt64) : upB x 0 = be8 x := by simp [upB, be8, byteB]
theorem upB_none (x : UInt64) : upB x 8 = [0, 0, 0, 0, 0, 0, 0, 0] := by rfl
theorem upB_set (x : UInt64) (m : Nat) (h : m < 8) : (upB x (m + 1)).set m (byteB x m) = upB x m := by
  apply List.ext_getElem
  · simp [upB]
  · intro i h1 h2
    rw [List.length_set, upB_length] at h1
    rw [List.getElem_set]
    by_cases e : m = i
    · subst e
      rw [if_pos rfl]
      simp [upB]
    · rw [if_neg e]
      simp only [upB, List.getElem_map, List.getElem_range]
      by_cases hle : m ≤ i
      · rw [if_pos (by omega), if_pos hle]
      · rw [if_neg (by omega), if_neg hle]
theorem two_set (x y : UInt64) (m : Nat) (h : m < 8) : ((upB x (m + 1) ++ upB y (m + 1)).set m (byteB x m)).set (8 + m) (byteB y m) = upB x m ++ upB y m := by
  have e1 : (upB x (m + 1) ++ upB y (m + 1)).set m (byteB x m) = upB x m ++ upB y (m + 1) := by
    rw [List.set_append, if_pos (by rw [upB_length]; exact h), upB_set x m h]
  rw [e1, List.set_append, if_neg (by rw [upB_length]; omega), upB_length, Nat.add_sub_cancel_left, upB_set y m h]
theorem down_b (X : Nat) : (UInt64.ofNat X % 256).toUInt8 = UInt8.ofNat (X % 18446744073709551616) := by
  apply UInt8.toNat_inj.1
  simp [UInt64.toNat_mod]
def dn (x : UInt64) (j : Nat) : UInt64 := UInt64.ofNat (x.toNat / 256 ^ (8 - j))
theorem dn_byte (x : UInt64) (m : Nat) (h : m < 8) : (dn x (m + 1) % 256).toUInt8 = byteB x m := by
  unfold dn byteB
  have e : 8 - (m + 1) = 7 - m := by omega
  have hl : x.toNat / 256 ^ (7 - m) < 18446744073709551616 := Nat.lt_of_le_of_lt (Nat.div_le_self _ _) x.toNat_lt
  rw [down_b, e, Nat.mod_eq_of_lt hl]
theorem dn_step (x : UInt64) (m : Nat) (h : m < 8) : dn x (m + 1) / 256 = dn x m := by
  apply UInt64.toNat_inj.1
  unfold dn
  have h1 : x.toNat / 256 ^ (8 - (m + 1)) < 18446744073709551616 := Nat.lt_of_le_of_lt (Nat.div_le_self _ _) x.toNat_lt
  have h2 : x.toNat / 256 ^ (8 - m) < 18446744073709551616 := Nat.lt_of_le_of_lt (Nat.div_le_self _ _) x.toNat_lt
  rw [UInt64.toNat_div, UInt64.toNat_ofNat', UInt64.toNat_ofNat', Nat.mod_eq_of_lt (show _ < 2 ^ 64 from h1), Nat.mod_eq_of_lt (show _ < 2 ^ 64 from h2)]
  have e : 8 - m = (8 - (m + 1)) + 1 := by omega
  rw [e, Nat.pow_succ, ← Nat.div_div_eq_div_mul]
  rfl
theorem dn_top (x : UInt64) : dn x 8 = x := by
  unfold dn
  simp
set_option maxRecDepth 100000 in
set_option maxHeartbeats 2000000 in
theorem refSum_any (x y : UInt64) (w : World) : Calls Try.prog 51 #[.agg #[.int .u64 (n64 x), .int .u64 (n64 y)]] w fun e w' => e = .returned (str (sum x y)) ∧ Gr w w' := by
  obtain ⟨Z, hZ⟩ : ∃ Z, Z = upB x 8 ++ upB y 8 := ⟨_, rfl⟩
  have hZl : Z.length = 16 := by rw [hZ, List.length_append, upB_length, upB_length]
  have hmc : madeCells (Value.int .u8 0).cells 16 = (bvs Z).toArray := by rw [hZ, upB_none, upB_none]; kernel_rfl
  have hb0 := (Blk.new w 30 #[.int .u64 (n64 x), .int .u64 (n64 y)]).alloc (.cells (bvs Z).toArray 5)
  have hown0 := OB.lit (E := 5) (base := w.heap.size) (w.alloc (.cells #[.int .u64 (n64 x), .int .u64 (n64 y)] 30)) Z (by simp) (by rw [hZl]; unfold maxLen; omega)
  rw [World.size_alloc, hZl] at hown0
  have hg0 := ((Gr.refl w).alloc (.cells #[.int .u64 (n64 x), .int .u64 (n64 y)] 30)).alloc (.cells (bvs Z).toArray 5)
  have q0 := hb0.cell 0
  have q1 := hb0.cell 1
  replace hown0 := Lib.hid hown0
  replace hg0 := Lib.hid hg0
  replace hZ := Lib.hid hZ
  replace hZl := Lib.hid hZl
  obtain ⟨i0, hi0, hz0, hz1, hz2⟩ := info_parts byteType.2
  have hmk := run_makeSlice (P := Try.prog) (w.alloc (.cells #[.int .u64 (n64 x), .int .u64 (n64 y)] 30)) 63 5 i0 (.int .u8 0) Try.underlying63 hi0 hz0 .i64 .i64 16 16 (by omega) (by omega) (by rw [hz1]; decide) (by rw [hz2]; decide) (by omega)
  rw [hz1, World.size_alloc, show (16 : Int).toNat * 1 = 16 from rfl, hmc, show (16 : Int).toNat = 16 from rfl] at hmk
  clear hmc hb0 hz0 hz1 hz2 hi0
  go_enter Try.func51, Try.ntmps51
  go_wp2
  go_region
  go_wp2
  clear hmk q0 q1
  go_loopw [4, 5, 6] (fun a b i wr => ∃ (j : Nat) (L : List UInt8), j ≤ 8 ∧ i = .int .i64 ((j : Int) - 1) ∧ a = .int .u64 (n64 (dn x j)) ∧ b = .int .u64 (n64 (dn y j)) ∧ L.length = 16 ∧ OB 5 wr w.heap.size (.slice (some ⟨w.heap.size + 1, 0, none⟩) 16 16) L ∧ Gr w wr ∧ Hid (L = upB x j ++ upB y j)) (fun _ _ i _ => (intOf i + 1).toNat)
  case atStart => exact ⟨8, Z, by omega, rfl, by rw [dn_top], by rw [dn_top], hZl.out, hown0.out.drew, Gr.drew hg0.out, hZ⟩
  case round =>
    obtain ⟨j, L, hj, rfl, rfl, rfl, hL16, hown, hg, hL⟩ := hrel
    clear hown0 hg0
    by_cases h0 : j = 0
    · subst h0
      have hcv := run_bytes_string (P := Try.prog) wr 63 9 5 Try.underlying63 byteType.1 Try.underlying9 wr.heap.size (some ⟨w.heap.size + 1, 0, none⟩) 16 16 L hL16.symm (by have h := hown; rw [← hL16] at h; exact h.rb)
      have hf : Hid (L = sum x y) := by rw [hL.out, upB_all, upB_all]; exact Lib.hid rfl
      have hg' := Lib.hid hg
      clear hown hg hL hL16
      go_wp2
      go_ret
      rw [← hf.out]
      exact ⟨rfl, hg'.out⟩
    · obtain ⟨m, rfl⟩ : ∃ m, j = m + 1 := ⟨j - 1, by omega⟩
      have e : (((m + 1 : Nat) : Int) - 1) = (m : Int) := by omega
      rw [e]
      have hm : m < 8 := by omega
      have hp := Lib.hid (dn_byte x m hm)
      have hq := Lib.hid (dn_byte y m hm)
      have hp2 := Lib.hid (dn_step x m hm)
      have hq2 := Lib.hid (dn_step y m hm)
      have hset := Lib.hid (two_set x y m hm)
      generalize dn x (m + 1) = p at *
      generalize dn y (m + 1) = q at *
      obtain ⟨v0, c0⟩ : ∃ v, wr.cell? ⟨w.heap.size + 1, m, none⟩ = some v := ⟨_, OB.cell hown m (by omega)⟩
      have f0 := OB.frozen hown m
      have hown1 := OB.stored hown m (p % 256).toUInt8
      obtain ⟨v1, c1⟩ : ∃ v, (wr.setCell ⟨w.heap.size + 1, m, none⟩ (.int .u8 (n8 (p % 256).toUInt8))).cell? ⟨w.heap.size + 1, 8 + m, none⟩ = some v := ⟨_, OB.cell hown1 (8 + m) (by rw [List.length_set]; omega)⟩
      have f1 := OB.frozen hown1 (8 + m)
      have hown2 := Lib.hid (OB.stored hown1 (8 + m) (q % 256).toUInt8)
      have hg2 := Lib.hid (Below.setCell (Below.setCell hg (p := ⟨w.heap.size + 1, m, none⟩) (Nat.le_succ _) (.int .u8 (n8 (p % 256).toUInt8))) (p := ⟨w.heap.size + 1, 8 + m, none⟩) (Nat.le_succ _) (.int .u8 (n8 (q % 256).toUInt8)))
      have hL2 : Hid ((L.set m (p % 256).toUInt8).set (8 + m) (q % 256).toUInt8 = upB x m ++ upB y m) := by rw [hL.out, hp.out, hq.out, hset.out]; exact Lib.hid rfl
      have hLl : ((L.set m (p % 256).toUInt8).set (8 + m) (q % 256).toUInt8).length = 16 := by simp [hL16]
      replace hLl := Lib.hid hLl
      have hmi : (0 : Int) ≤ (m : Int) := by omega
      have hm16 : (m : Int) < 16 := by omega
      have hm16' : (8 : Int) + (m : Int) < 16 := by omega
      clear hown hown1 hg hL hL16 h0 e
      go_wp2
      go_roundw
      case rel => exact ⟨m, _, by omega, by first | rfl | go_num, by rw [hp2.out], by rw [hq2.out], hLl.out, hown2.out, hg2.out, hL2⟩
      case measure => first | (simp [intOf]; done) | (simp [intOf]; omega)
end Vint
end Go.Proofs.Yteadcblmomngpaa
namespace Go.Proofs.Yteadcblmomngpaa
open Go Go.RowKit W
namespace Mix
/-- The lowest k half bytes' digits, the highest first. -/
def hexR (v : UInt64) : Nat → List UInt8
  | 0 => []
  | k + 1 => dg (nib v k) :: hexR v k
theorem nib_zero (v : UInt64) : nib v 0 = v := by unfold nib; simp
theorem nib_succ (v : UInt64) (k : Nat) : nib v k / 16 = nib v (k + 1) := by
  apply UInt64.toNat_inj.1
  unfold nib
  rw [UInt64.toNat_div, UInt64.toNat_ofNat', UInt64.toNat_ofNat']
  have h1 := v.toNat_lt
  have h2 : v.toNat / 2 ^ (4 * k) ≤ v.toNat := Nat.div_le_self _ _
  have h3 : v.toNat / 2 ^ (4 * (k + 1)) = v.toNat / 2 ^ (4 * k) / 16 := by rw [Nat.div_div_eq_div_mul, show 4 * (k + 1) = 4 * k + 4 by omega, Nat.pow_add]
  rw [h3, Nat.mod_eq_of_lt (by omega), Nat.mod_eq_of_lt (by omega)]
  rfl
theorem L_list (d e : Nat → UInt8) : L d e 16 = [d 0, d 1, d 2, d 3, d 4, d 5, d 6, d 7, d 8, d 9, d 10, d 11, d 12, d 13, d 14, d 15, e 0, e 1, e 2, e 3, e 4, e 5, e 6, e 7, e 8, e 9, e 10, e 11, e 12, e 13, e 14, e 15] := by
  simp [L, List.replicate]
theorem hexR_list (v : UInt64) : hexR v 16 = [up v 0, up v 1, up v 2, up v 3, up v 4, up v 5, up v 6, up v 7, up v 8, up v 9, up v 10, up v 11, up v 12, up v 13, up v 14, up v 15] := by
  simp only [hexR, up, Nat.reduceSub]
theorem L_all (v u : UInt64) : L (up v) (up u) 16 = hexR v 16 ++ hexR u 16 := by
  rw [L_list, hexR_list, hexR_list]
  rfl
@[simp] theorem hexR_length (v : UInt64) (k : Nat) : (hexR v k).length = k := by
  induction k with
  | zero => rfl
  | succ k ih => simp [hexR, ih]
theorem cut_all : ∀ m, m < 16 → List.take 1 (List.drop m [(48 : UInt8), 49, 50, 51, 52, 53, 54, 55, 56, 57, 97, 98, 99, 100, 101, 102]) = [digits.getD m 0] := by decide
theorem dg_cut (x : UInt64) (m : Nat) (h : x.toNat % 16 = m) (hm : m < 16) : List.take 1 (List.drop m [(48 : UInt8), 49, 50, 51, 52, 53, 54, 55, 56, 57, 97, 98, 99, 100, 101, 102]) = [dg x] := by
  rw [cut_all m hm, ← h]
  rfl
/-- A digit's value. -/
def val (c : UInt8) : Option UInt64 := if 48 ≤ c.toNat ∧ c.toNat ≤ 57 then some ((c.toUInt64 - 48) % 256) else if 97 ≤ c.toNat ∧ c.toNat ≤ 102 then some ((c.toUInt64 - 97) % 256 + 10) else none
def valV : Option UInt64 → Value
  | some n => .tuple #[.int .u64 (n64 n), .bool true]
  | none => .tuple #[.int .u64 0, .bool false]
theorem val_ways (c : UInt8) : (n8 c < 48 ∧ val c = none) ∨ ((48 : Int) ≤ n8 c ∧ n8 c ≤ 57 ∧ val c = some ((c.toUInt64 - 48) % 256)) ∨ ((57 : Int) < n8 c ∧ n8 c < 97 ∧ val c = none) ∨
    ((97 : Int) ≤ n8 c ∧ n8 c ≤ 102 ∧ val c = some ((c.toUInt64 - 97) % 256 + 10)) ∨ ((102 : Int) < n8 c ∧ val c = none) := by
  unfold n8 val
  rcases (show c.toNat < 48 ∨ (48 ≤ c.toNat ∧ c.toNat ≤ 57) ∨ (57 < c.toNat ∧ c.toNat < 97) ∨ (97 ≤ c.toNat ∧ c.toNat ≤ 102) ∨ 102 < c.toNat by omega) with h | h | h | h | h
  · exact .inl ⟨by omega, by rw [if_neg (by omega), if_neg (by omega)]⟩
  · exact .inr (.inl ⟨by omega, by omega, by rw [if_pos h]⟩)
  · exact .inr (.inr (.inl ⟨by omega, by omega, by rw [if_neg (by omega), if_neg (by omega)]⟩))
  · exact .inr (.inr (.inr (.inl ⟨by omega, by omega, by rw [if_neg (by omega), if_pos h]⟩)))
  · exact .inr (.inr (.inr (.inr ⟨by omega, by rw [if_neg (by omega), if_neg (by omega)]⟩)))
/-- Reading on: the number so far, and one digit more. -/
def numStep (n : Option UInt64) (c : UInt8) : Option UInt64 := n.bind fun n => (val c).map fun v => n * 16 + v
def num (l : List UInt8) : Option UInt64 := l.foldl numStep (some 0)
theorem foldl_none (l : List UInt8) : l.foldl numStep none = none := by
  induction l with
  | nil => rfl
  | cons c l ih => exact ih
theorem num_snoc (l : List UInt8) (k : Nat) (h : k < l.length) : num (l.take (k + 1)) = numStep (num (l.take k)) l[k] := by
  unfold num
  rw [List.take_succ_eq_append_getElem h, List.foldl_append]
  rfl
theorem num_stops (l : List UInt8) (k : Nat) (h : num (l.take k) = none) : num l = none := by
  have : num l = (l.drop k).foldl numStep (num (l.take k)) := by
    unfold num
    rw [← List.foldl_append, List.take_append_drop]
  rw [this, h, foldl_none]
attribute [go_sem] valV
end Mix
end Go.Proofs.Yteadcblmomngpaa
namespace Go.Proofs.Yteadcblmomngpaa
open Go Go.RowKit W
namespace Mix
def pstep (s : Option St) (c : UInt8) : Option St := s.bind fun s => (val c).map fun v => (s.1 * 16 ||| s.2 / 1152921504606846976, s.2 * 16 ||| v)
def pnum (l : List UInt8) : Option St := l.foldl pstep (some (0, 0))
theorem pfoldl_none (l : List UInt8) : l.foldl pstep none = none := by
  induction l with
  | nil => rfl
  | cons c l ih => exact ih
theorem pnum_snoc (l : List UInt8) (k : Nat) (h : k < l.length) : pnum (l.take (k + 1)) = pstep (pnum (l.take k)) l[k] := by
  unfold pnum
  rw [List.take_succ_eq_append_getElem h, List.foldl_append]
  rfl
theorem pnum_stops (l : List UInt8) (k : Nat) (h : pnum (l.take k) = none) : pnum l = none := by
  have : pnum l = (l.drop k).foldl pstep (pnum (l.take k)) := by
    unfold pnum
    rw [← List.foldl_append, List.take_append_drop]
  rw [this, h, pfoldl_none]
/-- What a text is read as; the error's number. -/
def parsed (l : List UInt8) : Option St := if l.length = 32 then pnum l else none
def gotV : Option St → Value
  | some s => .tuple #[sumV s, .int .i64 0]
  | none => .tuple #[sumV (0, 0), .int .i64 3]

/-! ### the plain law -/
def valN (c : UInt8) : Nat := match val c with | some v => v.toNat | none => 0
def good (c : UInt8) : Bool := (val c).isSome
theorem valN_lt (c : UInt8) : valN c < 16 := by
  unfold valN val
  have hc := c.toNat_lt
  split
  · rename_i v hv
    split at hv
    · cases hv
      have e : ((c.toUInt64 - 48) % 256).toNat = c.toNat - 48 := by
        rw [UInt64.toNat_mod, UInt64.toNat_sub]
        have : c.toUInt64.toNat = c.toNat := by simp
        rw [this]
        show (2 ^ 64 - 48 + c.toNat) % 2 ^ 64 % 256 = _
        omega
      omega
    · split at hv
      · cases hv
        have e : ((c.toUInt64 - 97) % 256 + 10).toNat = c.toNat - 97 + 10 := by
          rw [UInt64.toNat_add, UInt64.toNat_mod, UInt64.toNat_sub]
          have : c.toUInt64.toNat = c.toNat := by simp
          rw [this]
          show ((2 ^ 64 - 97 + c.toNat) % 2 ^ 64 % 256 + 10) % 2 ^ 64 = _
          omega
        omega
      · cases hv
  · omega
theorem good_val {c : UInt8} (h : good c = true) : val c = some (UInt64.ofNat (valN c)) := by
  unfold good at h
  obtain ⟨v, hv⟩ := Option.isSome_iff_exists.1 h
  unfold valN
  rw [hv]
  simp
theorem bad_val {c : UInt8} (h : good c = false) : val c = none := by
  unfold good at h
  cases hv : val c with
  | none => rfl
  | some v => rw [hv] at h; cases h
def NV (n : Nat) (l : List UInt8) : Nat := l.foldl (fun n c => n * 16 + valN c) n
theorem num_fold (l : List UInt8) : ∀ n, l.foldl numStep (some (UInt64.ofNat n)) = if l.all good then some (UInt64.ofNat (NV n l)) else none := by
  induction l with
  | nil => intro n; rfl
  | cons c l ih =>
    intro n
    rw [List.foldl_cons, List.all_cons]
    cases hc : good c with
    | false => simp [numStep, bad_val hc, foldl_none]
    | true =>
      have : numStep (some (UInt64.ofNat n)) c = some (UInt64.ofNat (n * 16 + valN c)) := by
        simp [numStep, good_val hc]
      rw [this, ih]
      simp [NV]
def split (n : Nat) : St := (UInt64.ofNat (n / 18446744073709551616), UInt64.ofNat n)
theorem or_small (a b : Nat) (h : b < 16) : a * 16 % 18446744073709551616 ||| b = a * 16 % 18446744073709551616 + b := by
  have h1 : a * 16 % 18446744073709551616 = 2 ^ 4 * (a % 1152921504606846976) := by omega
  rw [h1]
  exact (Nat.two_pow_add_eq_or_of_lt (i := 4) h _).symm
theorem pnum_fold (l : List UInt8) : ∀ n, l.foldl pstep (some (split n)) = if l.all good then some (split (NV n l)) else none := by
  induction l with
  | nil => intro n; rfl
  | cons c l ih =>
    intro n
    rw [List.foldl_cons, List.all_cons]
    cases hc : good c with
    | false => simp [pstep, bad_val hc, pfoldl_none]
    | true =>
      have hv := valN_lt c
      have : pstep (some (split n)) c = some (split (n * 16 + valN c)) := by
        simp only [pstep, good_val hc, Option.bind_some, Option.map_some, split]
        congr 1
        apply Prod.ext
        · apply UInt64.toNat_inj.1
          show (UInt64.ofNat (n / 18446744073709551616) * 16 ||| UInt64.ofNat n / 1152921504606846976).toNat = (UInt64.ofNat ((n * 16 + valN c) / 18446744073709551616)).toNat
          rw [UInt64.toNat_or, UInt64.toNat_mul, UInt64.toNat_div]
          simp only [UInt64.toNat_ofNat']
          show n / 18446744073709551616 % 18446744073709551616 * 16 % 18446744073709551616 ||| n % 18446744073709551616 / 1152921504606846976 = (n * 16 + valN c) / 18446744073709551616 % 18446744073709551616
          rw [or_small _ _ (by omega)]
          omega
        · apply UInt64.toNat_inj.1
          show (UInt64.ofNat n * 16 ||| UInt64.ofNat (valN c)).toNat = (UInt64.ofNat (n * 16 + valN c)).toNat
          rw [UInt64.toNat_or, UInt64.toNat_mul]
          simp only [UInt64.toNat_ofNat']
          show n % 18446744073709551616 * 16 % 18446744073709551616 ||| valN c % 18446744073709551616 = (n * 16 + valN c) % 18446744073709551616
          rw [Nat.mod_eq_of_lt (show valN c < 18446744073709551616 by omega), or_small _ _ hv]
          omega
      rw [this, ih]
      simp [NV]
theorem NV_acc (l : List UInt8) : ∀ n, NV n l = n * 16 ^ l.length + NV 0 l := by
  induction l with
  | nil => intro n; simp [NV]
  | cons c l ih =>
    intro n
    have h1 : NV n (c :: l) = NV (n * 16 + valN c) l := rfl
    have h2 : NV 0 (c :: l) = NV (valN c) l := by simp [NV]
    rw [h1, h2, ih (n * 16 + valN c), ih (valN c), List.length_cons, Nat.pow_succ, Nat.add_mul]
    rw [show n * (16 ^ l.length * 16) = n * 16 * 16 ^ l.length by rw [Nat.mul_assoc, Nat.mul_comm 16]]
    omega
theorem NV_lt (l : List UInt8) : NV 0 l < 16 ^ l.length := by
  induction l with
  | nil => simp [NV]
  | cons c l ih =>
    have h2 : NV 0 (c :: l) = NV (valN c) l := by simp [NV]
    rw [h2, NV_acc, List.length_cons, Nat.pow_succ]
    have hv := valN_lt c
    have : valN c * 16 ^ l.length ≤ 15 * 16 ^ l.length := Nat.mul_le_mul_right _ (by omega)
    omega
/-- The reference reads the two halves. -/
def refParsed (l : List UInt8) : Option St := if l.length = 32 then match num (l.take 16), num (l.drop 16) with | some a, some b => some (a, b) | _, _ => none else none
theorem parsed_ref (l : List UInt8) : parsed l = refParsed l := by
  unfold parsed refParsed
  split
  · rename_i hl
    have e1 : pnum l = if l.all good then some (split (NV 0 l)) else none := pnum_fold l 0
    have e2 : num (l.take 16) = if (l.take 16).all good then some (UInt64.ofNat (NV 0 (l.take 16))) else none := num_fold _ 0
    have e3 : num (l.drop 16) = if (l.drop 16).all good then some (UInt64.ofNat (NV 0 (l.drop 16))) else none := num_fold _ 0
    have hall : l.all good = ((l.take 16).all good && (l.drop 16).all good) := by rw [← List.all_append, List.take_append_drop]
    rw [e1, e2, e3, hall]
    cases h1 : (l.take 16).all good <;> cases h2 : (l.drop 16).all good <;> simp
    have hN : NV 0 l = NV 0 (l.take 16) * 16 ^ 16 + NV 0 (l.drop 16) := by
      have h3 : NV 0 l = NV (NV 0 (l.take 16)) (l.drop 16) := by
        unfold NV
        rw [← List.foldl_append, List.take_append_drop]
      rw [h3, NV_acc, show (l.drop 16).length = 16 by rw [List.length_drop]; omega]
    have hlt := NV_lt (l.drop 16)
    rw [show (l.drop 16).length = 16 by rw [List.length_drop]; omega] at hlt
    have hp : (16 : Nat) ^ 16 = 18446744073709551616 := by decide
    rw [hp] at hN hlt
    unfold split
    rw [hN]
    apply Prod.ext
    · show UInt64.ofNat _ = UInt64.ofNat _
      congr 1
      omega
    · apply UInt64.toNat_inj.1
      show (UInt64.ofNat _).toNat = (UInt64.ofNat _).toNat
      simp only [UInt64.toNat_ofNat']
      omega
  · rfl
theorem val_digit : ∀ m, m < 16 → val (digits.getD m 0) = some (UInt64.ofNat m) := by decide
theorem hexR_all (v : UInt64) (k : Nat) : (hexR v k).all good = true ∧ NV 0 (hexR v k) = v.toNat % 16 ^ k := by
  induction k with
  | zero => simp [hexR, NV, Nat.mod_one]
  | succ k ih =>
    have hd : val (dg (nib v k)) = some (UInt64.ofNat (v.toNat / 16 ^ k % 16)) := by
      unfold dg
      have : (nib v k).toNat % 16 = v.toNat / 16 ^ k % 16 := by
        unfold nib
        rw [UInt64.toNat_ofNat', Nat.pow_mul]
        show v.toNat / 16 ^ k % 18446744073709551616 % 16 = _
        omega
      rw [this]
      exact val_digit _ (Nat.mod_lt _ (by omega))
    have hv : valN (dg (nib v k)) = v.toNat / 16 ^ k % 16 := by
      unfold valN
      rw [hd]
      show (UInt64.ofNat _).toNat = _
      rw [UInt64.toNat_ofNat']
      have : v.toNat / 16 ^ k % 16 < 16 := Nat.mod_lt _ (by omega)
      omega
    constructor
    · rw [hexR, List.all_cons, ih.1]
      unfold good
      rw [hd]
      rfl
    · have h2 : NV 0 (hexR v (k + 1)) = NV (valN (dg (nib v k))) (hexR v k) := by simp [NV, hexR]
      rw [h2, NV_acc, ih.2, hexR_length, hv, Nat.pow_succ, Nat.mod_mul, Nat.mul_comm]
      omega
theorem num_hex (v : UInt64) : num (hexR v 16) = some v := by
  have e : num (hexR v 16) = if (hexR v 16).all good then some (UInt64.ofNat (NV 0 (hexR v 16))) else none := num_fold _ 0
  obtain ⟨h1, h2⟩ := hexR_all v 16
  rw [e, h1, h2]
  have hp : (16 : Nat) ^ 16 = 18446744073709551616 := by decide
  rw [hp, Nat.mod_eq_of_lt v.toNat_lt]
  simp
theorem parsed_text (s : St) : parsed (hexR s.1 16 ++ hexR s.2 16) = some s := by
  rw [parsed_ref]
  unfold refParsed
  rw [if_pos (by simp), List.take_left' (by simp), List.drop_left' (by simp), num_hex, num_hex]
end Mix
end Go.Proofs.Yteadcblmomngpaa
namespace Go.Proofs.Yteadcblmomngpaa
open Go Go.RowKit W
namespace Mix
def refGotV : Option St → Value
  | some s => .tuple #[sumV s, .bool true]
  | none => .tuple #[sumV (0, 0), .bool false]
theorem refParsed_none {l : List UInt8} (h : l.length = 32) (h2 : num (l.take 16) = none ∨ num (l.drop 16) = none) : refParsed l = none := by
  unfold refParsed
  rw [if_pos h]
  rcases h2 with h2 | h2 <;> rw [h2]
  cases num (l.take 16) <;> rfl
end Mix
end Go.Proofs.Yteadcblmomngpaa
namespace Go.Proofs.Yteadcblmomngpaa
open Go Go.RowKit W
namespace Mix
theorem of_nil : of [] = closed start 0 := by
  unfold of
  rw [feed_less (by simp), rest_less (by simp)]
  rfl
theorem closed_ne : (closed start 0).1 ≠ 0 := by decide +kernel
theorem text_12 : L (up 1) (up 2) 16 = [48, 48, 48, 48, 48, 48, 48, 48, 48, 48, 48, 48, 48, 48, 48, 49, 48, 48, 48, 48, 48, 48, 48, 48, 48, 48, 48, 48, 48, 48, 48, 50] := by decide +kernel
end Mix
end Go.Proofs.Yteadcblmomngpaa
namespace Go.Proofs.Yteadcblmomngpaa
open Go Go.RowKit W
namespace Mix
theorem take8_step {l : List UInt8} {at_ k : Nat} (h : at_ + k < l.length) : (l.drop at_).take (k + 1) = (l.drop at_).take k ++ [l[at_ + k]] := by
  have h' : k < (l.drop at_).length := by rw [List.length_drop]; omega
  rw [List.take_succ_eq_append_getElem h']
  simp
theorem word_take_end {l : List UInt8} {at_ k : Nat} (hk : k ≤ 8) (hl : at_ + k ≤ l.length) (h : ¬ (k < 8 ∧ at_ + k < l.length)) : (l.drop at_).take k = (l.drop at_).take 8 := by
  by_cases h8 : k = 8
  · rw [h8]
  · have : k = l.length - at_ := by omega
    rw [this, List.take_of_length_le (by rw [List.length_drop]; omega), List.take_of_length_le (by rw [List.length_drop]; omega)]
set_option maxRecDepth 100000 in
set_option maxHeartbeats 2000000 in
theorem refOf_any (l : List UInt8) (w : World) (hs : l.length ≤ 1099511627776) : Calls Try.prog 18 #[str l] w fun e' w' => e' = .returned (sumV (of l)) ∧ Gr w w' := by
  obtain ⟨s, hse⟩ : ∃ s : ByteArray, s = ⟨l.toArray⟩ := ⟨_, rfl⟩
  have hsz : s.size = l.length := by subst hse; simp [ByteArray.size]
  have hget : ∀ k (h : k < s.size) (h' : k < l.length), s[k] = l[k] := by subst hse; exact fun k h h' => rfl
  show Calls _ _ #[.string ⟨l.toArray⟩] _ _
  rw [← hse]
  have hs' : s.size ≤ 1099511627776 := by omega
  have hsz' := Lib.hid hsz
  have hget' := Lib.hid hget
  clear hsz hse hget
  have hst := Lib.hid (refStart_any (w.alloc (.cells #[.int .u64 0, .int .u64 0] 30)))
  have hb0 := Blk.new w 30 #[.int .u64 0, .int .u64 0]
  have hg0 := (Gr.refl w).alloc (.cells #[.int .u64 0, .int .u64 0] 30)
  replace hb0 := Lib.hid hb0
  replace hg0 := Lib.hid hg0
  go_enter Try.func18, Try.ntmps18
  go_wp2_with fail
  refine hst.out.mono ?_
  rintro e w1 ⟨rfl, hgr⟩
  have hb0 := Lib.hid ((hb0.out.below hgr hb0.out.lt).alloc (.cells #[.int .u64 (n64 start.1), .int .u64 (n64 start.2)] 30))
  have hb1 := Lib.hid (Blk.new w1 30 #[.int .u64 (n64 start.1), .int .u64 (n64 start.2)])
  have hlt : w.heap.size < w1.heap.size := (hb0.out.lt |> fun h => by have := hgr.size; rw [World.size_alloc] at this; omega)
  have hg0 := Lib.hid ((hg0.out.trans hgr).alloc (.cells #[.int .u64 (n64 start.1), .int .u64 (n64 start.2)] 30))
  clear hgr hst
  go_wp2_with fail
  go_loopw [4] (fun i wr => ∃ (k : Nat) (st : St), k ≤ s.size + 7 ∧ i = .int .i64 k ∧ Gr w wr ∧ Blk wr w.heap.size 30 #[.int .u64 0, .int .u64 0] ∧ Blk wr w1.heap.size 30 #[.int .u64 (n64 st.1), .int .u64 (n64 st.2)] ∧ Hid (eights st (l.drop k) = eights start l)) (fun i _ => s.size + 7 - (intOf i).toNat)
  case atStart => exact ⟨0, start, Nat.zero_le _, rfl, hg0.out, hb0.out, hb1.out, Lib.hid rfl⟩
  case round =>
    obtain ⟨a, st, ha, rfl, hg, hbr, hbs, he⟩ := hrel
    clear hb0 hb1 hg0
    replace hg := Lib.hid hg
    replace hbr := Lib.hid hbr
    replace hbs := Lib.hid hbs
    by_cases h : a < s.size
    · go_wp2
      go_loop [5, 6, 7] (fun x u i => ∃ (k : Nat) (y z : UInt64), k ≤ 8 ∧ a + k ≤ s.size ∧ x = .int .u64 (n64 y) ∧ u = .int .u64 (n64 z) ∧ i = .int .i64 ((a + k : Nat) : Int) ∧ Hid (y = word ((l.drop a).take k) ∧ z = UInt64.ofNat (256 ^ k))) (fun _ _ i => a + 8 - (intOf i).toNat)
      case atStart => exact ⟨0, 0, 1, by omega, by omega, rfl, rfl, rfl, Lib.hid ⟨rfl, rfl⟩⟩
      case round =>
        obtain ⟨k, y, z, hk, hak, rfl, rfl, rfl, hyz⟩ := hrel
        by_cases hc : k < 8 ∧ a + k < s.size
        · obtain ⟨hk8, hks⟩ := hc
          have hks' : a + k < l.length := by rw [← hsz'.out]; exact hks
          have hgt := hget'.out (a + k) hks hks'
          have hnew : Hid (y + z * s[a + k].toUInt64 = word ((l.drop a).take (k + 1)) ∧ z * 256 = UInt64.ofNat (256 ^ (k + 1))) := by
            obtain ⟨h1, h2⟩ := hyz.out
            have hlen : ((l.drop a).take k).length = k := by simp; omega
            have h3 := word_add ((l.drop a).take k) l[a + k]
            rw [hlen] at h3
            refine Lib.hid ⟨?_, ?_⟩
            · rw [h1, h2, hgt, take8_step hks', ← h3]
            · rw [h2, unit_step]
          clear hgt hyz
          go_wp2
          go_round
          case rel => exact ⟨k + 1, _, _, by omega, by omega, rfl, rfl, by go_num, hnew⟩
          case measure => simp [intOf]; omega
        · have hw8 : Hid (y = word ((l.drop a).take 8)) := by
            obtain ⟨h1, h2⟩ := hyz.out
            rw [word_take_end hk (by rw [← hsz'.out]; exact hak) (by rw [← hsz'.out]; exact hc)] at h1
            exact Lib.hid h1
          clear hyz
          have hel : Hid (eights (round st y) (l.drop (a + 8)) = eights start l) := by
            have h1 := he.out
            rw [eights_some (by rw [List.length_drop, ← hsz'.out]; omega), List.drop_drop, ← hw8.out] at h1
            exact Lib.hid h1
          have hrr := Lib.hid (refRound_any st y wr)
          have c0 := hbs.out.cell 0
          have c1 := hbs.out.cell 1
          clear he hw8
          by_cases hk8 : k < 8
          · have hks : ¬ a + k < s.size := fun h => hc ⟨hk8, h⟩
            clear hc
            go_wp2_with fail
            refine hrr.out.mono ?_
            rintro e w2 ⟨rfl, hgr⟩
            have hb2 := hbs.out.below hgr hbs.out.lt
            have q0 := hb2.frozen 0
            have q1 := hb2.frozen 1
            have hb3 := Lib.hid ((hb2.set_ 0 (.int .u64 (n64 (round st y).1))).set_ 1 (.int .u64 (n64 (round st y).2)))
            have hb4 := Lib.hid (((hbr.out.below hgr hbr.out.lt).far (p := ⟨w1.heap.size, 0, none⟩) (by show w.heap.size ≠ w1.heap.size; omega) (.int .u64 (n64 (round st y).1))).far (p := ⟨w1.heap.size, 1, none⟩) (by show w.heap.size ≠ w1.heap.size; omega) (.int .u64 (n64 (round st y).2)))
            have hg3 := Lib.hid (Below.setCell (Below.setCell (hg.out.trans hgr) (p := ⟨w1.heap.size, 0, none⟩) (Nat.le_of_lt hlt) (.int .u64 (n64 (round st y).1))) (p := ⟨w1.heap.size, 1, none⟩) (Nat.le_of_lt hlt) (.int .u64 (n64 (round st y).2)))
            have q2 : (w2.setCell ⟨w1.heap.size, 0, none⟩ (.int .u64 (n64 (round st y).1))).frozen? ⟨w1.heap.size, 1, none⟩ = false := (hb2.set_ 0 _).frozen 1
            have q3 : w2.cell? ⟨w1.heap.size, 0, none⟩ = some (.int .u64 (n64 st.1)) := hb2.cell 0
            have q4 : (w2.setCell ⟨w1.heap.size, 0, none⟩ (.int .u64 (n64 (round st y).1))).cell? ⟨w1.heap.size, 1, none⟩ = some (.int .u64 (n64 st.2)) := (hb2.set_ 0 _).cell 1
            clear hb2 hgr hg hbr hbs c0 c1 hrr
            go_wp2
            go_roundw
            case rel => exact ⟨a + 8, round st y, by omega, by go_num, hg3.out, hb4.out, hb3.out, hel⟩
            case measure => simp [intOf]; omega
          · obtain rfl : k = 8 := by omega
            clear hc
            go_wp2_with fail
            refine hrr.out.mono ?_
            rintro e w2 ⟨rfl, hgr⟩
            have hb2 := hbs.out.below hgr hbs.out.lt
            have q0 := hb2.frozen 0
            have q1 := hb2.frozen 1
            have hb3 := Lib.hid ((hb2.set_ 0 (.int .u64 (n64 (round st y).1))).set_ 1 (.int .u64 (n64 (round st y).2)))
            have hb4 := Lib.hid (((hbr.out.below hgr hbr.out.lt).far (p := ⟨w1.heap.size, 0, none⟩) (by show w.heap.size ≠ w1.heap.size; omega) (.int .u64 (n64 (round st y).1))).far (p := ⟨w1.heap.size, 1, none⟩) (by show w.heap.size ≠ w1.heap.size; omega) (.int .u64 (n64 (round st y).2)))
            have hg3 := Lib.hid (Below.setCell (Below.setCell (hg.out.trans hgr) (p := ⟨w1.heap.size, 0, none⟩) (Nat.le_of_lt hlt) (.int .u64 (n64 (round st y).1))) (p := ⟨w1.heap.size, 1, none⟩) (Nat.le_of_lt hlt) (.int .u64 (n64 (round st y).2)))
            have q2 : (w2.setCell ⟨w1.heap.size, 0, none⟩ (.int .u64 (n64 (round st y).1))).frozen? ⟨w1.heap.size, 1, none⟩ = false := (hb2.set_ 0 _).frozen 1
            have q3 : w2.cell? ⟨w1.heap.size, 0, none⟩ = some (.int .u64 (n64 st.1)) := hb2.cell 0
            have q4 : (w2.setCell ⟨w1.heap.size, 0, none⟩ (.int .u64 (n64 (round st y).1))).cell? ⟨w1.heap.size, 1, none⟩ = some (.int .u64 (n64 st.2)) := (hb2.set_ 0 _).cell 1
            clear hb2 hgr hg hbr hbs c0 c1 hrr
            go_wp2
            go_roundw
            case rel => exact ⟨a + 8, round st y, by omega, by go_num, hg3.out, hb4.out, hb3.out, hel⟩
            case measure => simp [intOf]; omega
    · have hfin : Hid (of l = closed st (UInt64.ofNat s.size)) := by
        have h1 := he.out
        rw [eights_none (by rw [List.length_drop, ← hsz'.out]; omega)] at h1
        rw [of_eights, ← h1, hsz'.out]
        exact Lib.hid rfl
      clear he ha
      have c0 := hbs.out.cell 0
      have c1 := hbs.out.cell 1
      obtain ⟨s1, hs1⟩ : ∃ t, t = round st (UInt64.ofNat s.size) := ⟨_, rfl⟩
      have hn : Hid (∀ w', Calls Try.prog 36 #[sumV st, .int .u64 (n64 (UInt64.ofNat s.size))] w' fun e w'' => e = .returned (sumV s1) ∧ Gr w' w'') := Lib.hid (fun w' => by have h := refRound_any st (UInt64.ofNat s.size) w'; rw [← hs1] at h; exact h)
      replace hs1 := Lib.hid hs1
      go_wp2_with fail
      refine (hn.out _).mono ?_
      rintro e v1 ⟨rfl, hgr⟩
      clear hn
      clear c0 c1
      obtain ⟨q0, q1, q2, q3, hb3⟩ := (hbs.out.below hgr hbs.out.lt).pair (.int .u64 (n64 s1.1)) (.int .u64 (n64 s1.2))
      replace hbr := Lib.hid (((hbr.out.below hgr hbr.out.lt).far (p := ⟨w1.heap.size, 0, none⟩) (by show w.heap.size ≠ w1.heap.size; omega) (.int .u64 (n64 s1.1))).far (p := ⟨w1.heap.size, 1, none⟩) (by show w.heap.size ≠ w1.heap.size; omega) (.int .u64 (n64 s1.2)))
      replace hg := Lib.hid (Below.setCell (Below.setCell (Gr.trans hg.out hgr) (p := ⟨w1.heap.size, 0, none⟩) (Nat.le_of_lt hlt) (.int .u64 (n64 s1.1))) (p := ⟨w1.heap.size, 1, none⟩) (Nat.le_of_lt hlt) (.int .u64 (n64 s1.2)))
      clear hgr hbs
      have hbs := Lib.hid hb3
      clear hb3
      have c0 := hbs.out.cell 0
      have c1 := hbs.out.cell 1
      obtain ⟨s2, hs2⟩ : ∃ t, t = round s1 18446744073709551615 := ⟨_, rfl⟩
      have hn : Hid (∀ w', Calls Try.prog 36 #[sumV s1, .int .u64 (n64 18446744073709551615)] w' fun e w'' => e = .returned (sumV s2) ∧ Gr w' w'') := Lib.hid (fun w' => by have h := refRound_any s1 18446744073709551615 w'; rw [← hs2] at h; exact h)
      replace hs2 := Lib.hid hs2
      go_wp2_with fail
      refine (hn.out _).mono ?_
      rintro e v2 ⟨rfl, hgr⟩
      clear hn
      clear c0 c1
      obtain ⟨q0, q1, q2, q3, hb3⟩ := (hbs.out.below hgr hbs.out.lt).pair (.int .u64 (n64 s2.1)) (.int .u64 (n64 s2.2))
      replace hbr := Lib.hid (((hbr.out.below hgr hbr.out.lt).far (p := ⟨w1.heap.size, 0, none⟩) (by show w.heap.size ≠ w1.heap.size; omega) (.int .u64 (n64 s2.1))).far (p := ⟨w1.heap.size, 1, none⟩) (by show w.heap.size ≠ w1.heap.size; omega) (.int .u64 (n64 s2.2)))
      replace hg := Lib.hid (Below.setCell (Below.setCell (Gr.trans hg.out hgr) (p := ⟨w1.heap.size, 0, none⟩) (Nat.le_of_lt hlt) (.int .u64 (n64 s2.1))) (p := ⟨w1.heap.size, 1, none⟩) (Nat.le_of_lt hlt) (.int .u64 (n64 s2.2)))
      clear hgr hbs
      have hbs := Lib.hid hb3
      clear hb3
      have c0 := hbs.out.cell 0
      have c1 := hbs.out.cell 1
      obtain ⟨s3, hs3⟩ : ∃ t, t = round s2 0 := ⟨_, rfl⟩
      have hn : Hid (∀ w', Calls Try.prog 36 #[sumV s2, .int .u64 (n64 0)] w' fun e w'' => e = .returned (sumV s3) ∧ Gr w' w'') := Lib.hid (fun w' => by have h := refRound_any s2 0 w'; rw [← hs3] at h; exact h)
      replace hs3 := Lib.hid hs3
      go_wp2_with fail
      refine (hn.out _).mono ?_
      rintro e v3 ⟨rfl, hgr⟩
      clear hn
      clear c0 c1
      replace hg := Lib.hid (Gr.trans hg.out hgr)
      replace hbr := Lib.hid (hbr.out.below hgr hbr.out.lt)
      clear hgr hbs q0 q1 q2 q3
      obtain ⟨s4, hs4⟩ : ∃ t, t = round s3 0 := ⟨_, rfl⟩
      have hn : Hid (∀ w', Calls Try.prog 36 #[sumV s3, .int .u64 (n64 0)] w' fun e w'' => e = .returned (sumV s4) ∧ Gr w' w'') := Lib.hid (fun w' => by have h := refRound_any s3 0 w'; rw [← hs4] at h; exact h)
      replace hs4 := Lib.hid hs4
      go_wp2_with fail
      refine (hn.out _).mono ?_
      rintro e v4 ⟨rfl, hgr⟩
      clear hn
      obtain ⟨q0, q1, q2, q3, hb3⟩ := (hbr.out.below hgr hbr.out.lt).pair (.int .u64 (n64 s4.1)) (.int .u64 (n64 s4.2))
      have z0 := hb3.cell 0
      have z1 := hb3.cell 1
      replace hg := Lib.hid (Below.setCell (Below.setCell (Gr.trans hg.out hgr) (p := ⟨w.heap.size, 0, none⟩) (Nat.le_refl _) (.int .u64 (n64 s4.1))) (p := ⟨w.heap.size, 1, none⟩) (Nat.le_refl _) (.int .u64 (n64 s4.2)))
      clear hgr hbr hb3
      go_wp2
      refine bodyPost_ret (v := sumV s4) (by simp [results, Try.results18, go_sem, z0, z1]) rfl ⟨?_, hg.out⟩
      rw [hfin.out, hs4.out, hs3.out, hs2.out, hs1.out]
      rfl
end Mix
end Go.Proofs.Yteadcblmomngpaa
namespace Go.Proofs.Yteadcblmomngpaa
open Go Go.RowKit Go.Shelf W Pth
namespace Tr
theorem not_leaf_nil {t : List Nd} {p : List UInt8} (h : p = []) : ¬ (p ≠ [] ∧ (find t p).any (fun n => decide (n.kind ≠ 1)) = true) := fun e => e.1 h
theorem not_leaf_none {t : List Nd} {p : List UInt8} (h : find t p = none) : ¬ (p ≠ [] ∧ (find t p).any (fun n => decide (n.kind ≠ 1)) = true) := fun e => by rw [h] at e; simp at e
theorem not_leaf_dir {t : List Nd} {p : List UInt8} {n : Nd} (h : find t p = some n) (h2 : n.kind = 1) : ¬ (p ≠ [] ∧ (find t p).any (fun n => decide (n.kind ≠ 1)) = true) := fun e => by rw [h] at e; simp [h2] at e
theorem is_leaf {t : List Nd} {p : List UInt8} {n : Nd} (h0 : p ≠ []) (h : find t p = some n) (h2 : n.kind ≠ 1) : p ≠ [] ∧ (find t p).any (fun n => decide (n.kind ≠ 1)) = true := ⟨h0, by rw [h]; simp [h2]⟩
set_option maxRecDepth 100000 in
set_option maxHeartbeats 16000000 in
theorem refText_depth (A : Option Addr) (c : Nat) (l : List Nd) (hf : Fit l) : ∀ (d : Nat) (p : List UInt8) (w : World), 17 ≤ d + (names p).length → NR w w.heap.size A l →
    Calls Try.prog 29 #[.slice A l.length c, str p] w fun e w' => e = .returned (str (textP l p)) ∧ Gr w w' := by
  intro d
  induction d with
  | zero => intro p w h; have := names_len16 p; omega
  | succ d ih =>
    intro p w hdp h
    replace ih := Lib.hid ih
    have hkd := Lib.hid (fun k (hk : k ∈ kids l p) => (show 17 ≤ d + (names k.p).length by have := kids_depth hk; omega))
    clear hdp
    have hat := Lib.hid (refAt_any A c l.length l p w w.heap.size rfl h (by have := hf.1; omega))
    have hki := Lib.hid (fun w h => refKids_any A c l p w h hf)
    replace h := Lib.hid h
    have hl1 := hf.1
    replace hf := Lib.hid hf
    obtain ⟨L, hL⟩ : ∃ L, textP l p = L := ⟨_, rfl⟩
    rw [hL]
    go_enter Try.func29, Try.ntmps29
    go_wp2_with fail
    go_at_call 12
    refine hat.out.mono ?_
    rintro e w1 ⟨rfl, rfl⟩
    clear hat
    by_cases h0 : p = []
    · have hnl := textP_dir (not_leaf_nil (t := l) h0)
      rw [hL] at hnl
      replace hnl := Lib.hid hnl
      clear hL
      subst h0
      have hk2 := Lib.hid (hki.out w h.out)
      go_wp2_with fail
      go_at_call 47
      refine hk2.out.mono ?_
      rintro e w2 ⟨A2, c2, rfl, o2, g2⟩
      have hkk := Lib.hid (fun k (hk : k ∈ kids l []) => (hf.out.2 k (kids_mem hk)).1)
      have hKl := kids_len l []
      obtain ⟨K, hK⟩ : ∃ K, kids l [] = K := ⟨_, rfl⟩
      rw [hK] at hKl hkk hkd hnl o2
      rw [hK]
      have t2 := Lib.hid (OR.reads o2)
      have t1 := Lib.hid (h.out.on g2)
      replace g2 := Lib.hid g2
      clear hk2 hki o2 hK h
      go_wp2
      go_loopw [7, 8] (fun v7 v8 wr => ∃ (k : Nat) (d : List UInt8), k ≤ K.length ∧ v7 = str d ∧ v8 = .int .i64 (k : Int) ∧ Hid (d = (K.take k).flatMap (entryP l) ∧ Gr w2 wr)) (fun _ v8 _ => K.length - (intOf v8).toNat)
      case atStart => exact ⟨0, [], by omega, rfl, rfl, Lib.hid ⟨rfl, Gr.refl _⟩⟩
      case round =>
        obtain ⟨k, d, hk, rfl, rfl, hst⟩ := hrel
        obtain ⟨hd, gz⟩ := hst.out
        clear hst
        by_cases hkl : k < K.length
        · have ij : (k : Int) < (K.length : Int) := by omega
          have kw : IntKind.i64.wrap ((k : Int) + 1) = (k : Int) + 1 := IntWalk.i64_in _ (by omega)
          have hnr := (show NR w2 w2.heap.size A2 K from t2.out).below gz
          obtain ⟨kd, rfl, hlt', e0, e1, e2, e3, e4⟩ := NR.at_ hnr hkl
          have sz := Below.size gz
          have hbl : (kd.add (k * 5)).block < wr.heap.size := by rw [block_of_add]; omega
          have hdn : d ++ entryP l K[k] = (K.take (k + 1)).flatMap (entryP l) := by rw [List.take_succ_eq_append_getElem hkl, List.flatMap_append, hd]; simp
          have hdl : d.length ≤ 39000 := by
            rw [hd]
            refine Nat.le_trans (flat_len_le _ 39 (entryP_len l) _) ?_
            rw [List.length_take]
            omega
          have hxk := hkk.out _ (List.getElem_mem hkl)
          have hxd := hkd.out _ (List.getElem_mem hkl)
          generalize K[k] = x at *
          have hba := Lib.hid (fun w => Pth.refBase_any x.p w hxk)
          have b1 := base_len x.p
          have hte := Lib.hid (fun w => Vint.refText_any (base x.p) w (by omega))
          have hnu := Lib.hid (fun w => Vint.refNum_any (UInt64.ofInt x.kind) w)
          have hih := Lib.hid (fun w' (hg : Gr wr w') => ih.out x.p w' hxd (t1.out.on (Gr.trans gz hg)))
          have htl := textP_len hf.out.1 (fun y hy => (hf.out.2 y hy).2) x.p
          have hof := Lib.hid (fun w => Mix.refOf_any (textP l x.p) w (by omega))
          have hsu := Lib.hid (fun w => Vint.refSum_any (Mix.of (textP l x.p)).1 (Mix.of (textP l x.p)).2 w)
          have q1 : (Vint.text (base x.p)).length ≤ 30 := by
            have := entryP_len l x
            unfold entryP at this
            rw [List.length_append] at this
            unfold Vint.text at this ⊢
            have h3 : (Vint.num (base x.p).length).length ≤ 1 := Vint.num_length 0 _ (by omega)
            rw [List.length_append]
            omega
          have q2 := num_len10 (UInt64.ofInt x.kind)
          have q3 := sum_length (Mix.of (textP l x.p)).1 (Mix.of (textP l x.p)).2
          replace gz := Lib.hid gz
          replace hdn := Lib.hid hdn
          clear hd hnr hlt' hxk hxd b1 htl ih
          go_wp2
          refine region_grow rfl (by kernel_rfl) ?_
          refine GW.mv rfl trivial (.inl rfl) (kn0 (t := 7) (c := str d) (by kernel_rfl) rfl) (eqv_lasts _) ?_
          refine GW.mv rfl trivial (.inl rfl) (kn0 (t := 6) (c := .slice (some kd) K.length c2) (by kernel_rfl) rfl) (eqv_lasts _) ?_
          refine GW.mv rfl trivial (.inl rfl) (kn0 (t := 8) (c := .int .i64 (k : Int)) (by kernel_rfl) rfl) (eqv_lasts _) ?_
          refine GW.p2 (.pointer (some (kd.add (k * 5)))) rfl trivial (kn (t := 41) (j := 1) (by kernel_rfl)) (kn (t := 42) (j := 2) (by kernel_rfl)) (fun ρ w' h1 h2 hg => by show ((Instr.indexAt 22 (ρ (.tmp 41)) (ρ (.tmp 42)) >>= fun v => pure (Next.value v)) : Sem Next).run Try.prog w' = _; rw [h1, h2, Sem.run_bind, run_idxR w' Try.underlying22 (size := 5) (by kernel_rfl) kd _ _ k hkl]; simp) ?_
          refine GW.p1 (.pointer (some (kd.add (k * 5)))) rfl trivial (kn (t := 43) (j := 3) (by kernel_rfl)) (fun ρ w' hρ hg => by simp [execOp, hρ, go_sem]) ?_
          refine GW.p1 (str x.p) rfl trivial (kn (t := 44) (j := 4) (by kernel_rfl)) (fun ρ w' hρ hg => by simp [execOp, hρ, go_sem, (hg.cell (p := (kd.add (k * 5))) hbl).trans e0]) ?_
          refine GW.call1 (eqv (str (base x.p))) rfl trivial rfl Try.func49 (by kernel_rfl) (by kernel_rfl) (eqv_lasts _) (kn (t := 45) (j := 5) (by kernel_rfl)) (fun v w' hg hv => ?_) ?_
          · obtain rfl : v = _ := hv
            refine (hba.out w').mono ?_
            rintro e w9 ⟨rfl, hg9⟩
            exact ⟨_, rfl, rfl, hg9⟩
          refine GW.call1 (eqv (str (Vint.text (base x.p)))) rfl trivial rfl Try.func48 (by kernel_rfl) (by kernel_rfl) (eqv_lasts _) (kn (t := 46) (j := 6) (by kernel_rfl)) (fun v w' hg hv => ?_) ?_
          · obtain rfl : v = _ := hv
            refine (hte.out w').mono ?_
            rintro e w9 ⟨rfl, hg9⟩
            exact ⟨_, rfl, rfl, hg9⟩
          refine GW.cat d (Vint.text (base x.p)) (by first | omega | (simp; done) | (simp; omega)) rfl trivial rfl (kn (t := 40) (j := 0) (by kernel_rfl)) (kn (t := 47) (j := 7) (by kernel_rfl)) ?_
          refine GW.mv rfl trivial (.inl rfl) (kn0 (t := 6) (c := .slice (some kd) K.length c2) (by kernel_rfl) rfl) (eqv_lasts _) ?_
          refine GW.mv rfl trivial (.inl rfl) (kn0 (t := 8) (c := .int .i64 (k : Int)) (by kernel_rfl) rfl) (eqv_lasts _) ?_
          refine GW.p2 (.pointer (some (kd.add (k * 5)))) rfl trivial (kn (t := 49) (j := 9) (by kernel_rfl)) (kn (t := 50) (j := 10) (by kernel_rfl)) (fun ρ w' h1 h2 hg => by show ((Instr.indexAt 22 (ρ (.tmp 49)) (ρ (.tmp 50)) >>= fun v => pure (Next.value v)) : Sem Next).run Try.prog w' = _; rw [h1, h2, Sem.run_bind, run_idxR w' Try.underlying22 (size := 5) (by kernel_rfl) kd _ _ k hkl]; simp) ?_
          refine GW.p1 (.pointer (some ⟨(kd.add (k * 5)).block, (kd.add (k * 5)).off + 1, none⟩)) rfl trivial (kn (t := 51) (j := 11) (by kernel_rfl)) (fun ρ w' hρ hg => by simp [execOp, hρ, go_sem]) ?_
          refine GW.p1 (.int .i64 x.kind) rfl trivial (kn (t := 52) (j := 12) (by kernel_rfl)) (fun ρ w' hρ hg => by simp [execOp, hρ, go_sem, (hg.cell (p := ⟨(kd.add (k * 5)).block, (kd.add (k * 5)).off + 1, none⟩) hbl).trans e1]) ?_
          refine GW.p1 (.int .u64 (n64 (UInt64.ofInt x.kind))) rfl trivial (kn (t := 53) (j := 13) (by kernel_rfl)) (fun ρ w' hρ hg => by simp [execOp, hρ, go_sem]) ?_
          refine GW.call1 (eqv (str (Vint.num (UInt64.ofInt x.kind).toNat))) rfl trivial rfl Try.func50 (by kernel_rfl) (by kernel_rfl) (eqv_lasts _) (kn (t := 54) (j := 14) (by kernel_rfl)) (fun v w' hg hv => ?_) ?_
          · obtain rfl : v = _ := hv
            refine (hnu.out w').mono ?_
            rintro e w9 ⟨rfl, hg9⟩
            exact ⟨_, rfl, rfl, hg9⟩
          refine GW.cat (d ++ (Vint.text (base x.p))) (Vint.num (UInt64.ofInt x.kind).toNat) (by first | omega | (simp; done) | (simp; omega)) rfl trivial rfl (kn (t := 48) (j := 8) (by kernel_rfl)) (kn (t := 55) (j := 15) (by kernel_rfl)) ?_
          refine GW.mv rfl trivial (.inl rfl) (kn0 (t := 0) (c := .slice A l.length c) (by kernel_rfl) rfl) (eqv_lasts _) ?_
          refine GW.mv rfl trivial (.inl rfl) (kn0 (t := 6) (c := .slice (some kd) K.length c2) (by kernel_rfl) rfl) (eqv_lasts _) ?_
          refine GW.mv rfl trivial (.inl rfl) (kn0 (t := 8) (c := .int .i64 (k : Int)) (by kernel_rfl) rfl) (eqv_lasts _) ?_
          refine GW.p2 (.pointer (some (kd.add (k * 5)))) rfl trivial (kn (t := 58) (j := 18) (by kernel_rfl)) (kn (t := 59) (j := 19) (by kernel_rfl)) (fun ρ w' h1 h2 hg => by show ((Instr.indexAt 22 (ρ (.tmp 58)) (ρ (.tmp 59)) >>= fun v => pure (Next.value v)) : Sem Next).run Try.prog w' = _; rw [h1, h2, Sem.run_bind, run_idxR w' Try.underlying22 (size := 5) (by kernel_rfl) kd _ _ k hkl]; simp) ?_
          refine GW.p1 (.pointer (some (kd.add (k * 5)))) rfl trivial (kn (t := 60) (j := 20) (by kernel_rfl)) (fun ρ w' hρ hg => by simp [execOp, hρ, go_sem]) ?_
          refine GW.p1 (str x.p) rfl trivial (kn (t := 61) (j := 21) (by kernel_rfl)) (fun ρ w' hρ hg => by simp [execOp, hρ, go_sem, (hg.cell (p := (kd.add (k * 5))) hbl).trans e0]) ?_
          refine GW.call2 (eqv (str (textP l x.p))) rfl trivial rfl Try.func29 (by kernel_rfl) (by kernel_rfl) (eqv_lasts _) (kn (t := 57) (j := 17) (by kernel_rfl)) (kn (t := 62) (j := 22) (by kernel_rfl)) (fun v u w' hg hv hu => ?_) ?_
          · obtain rfl : v = _ := hv
            obtain rfl : u = _ := hu
            refine (hih.out w' hg).mono ?_
            rintro e w9 ⟨rfl, hg9⟩
            exact ⟨_, rfl, rfl, hg9⟩
          refine GW.call1 (eqv (Mix.sumV (Mix.of (textP l x.p)))) rfl trivial rfl Try.func18 (by kernel_rfl) (by kernel_rfl) (eqv_lasts _) (kn (t := 63) (j := 23) (by kernel_rfl)) (fun v w' hg hv => ?_) ?_
          · obtain rfl : v = _ := hv
            refine (hof.out w').mono ?_
            rintro e w9 ⟨rfl, hg9⟩
            exact ⟨_, rfl, rfl, hg9⟩
          refine GW.call1 (eqv (str (Vint.sum (Mix.of (textP l x.p)).1 (Mix.of (textP l x.p)).2))) rfl trivial rfl Try.func51 (by kernel_rfl) (by kernel_rfl) (eqv_lasts _) (kn (t := 64) (j := 24) (by kernel_rfl)) (fun v w' hg hv => ?_) ?_
          · obtain rfl : v = _ := hv
            refine (hsu.out w').mono ?_
            rintro e w9 ⟨rfl, hg9⟩
            exact ⟨_, rfl, rfl, hg9⟩
          refine GW.cat ((d ++ (Vint.text (base x.p))) ++ (Vint.num (UInt64.ofInt x.kind).toNat)) (Vint.sum (Mix.of (textP l x.p)).1 (Mix.of (textP l x.p)).2) (by first | omega | (simp; done) | (simp; omega)) rfl trivial rfl (kn (t := 56) (j := 16) (by kernel_rfl)) (kn (t := 65) (j := 25) (by kernel_rfl)) ?_
          refine GW.mv rfl trivial (.inr rfl) (kn (t := 66) (j := 26) (by kernel_rfl)) (eqv_lasts _) ?_
          refine GW.done (by simp) (by kernel_rfl) (fun w' hg => ?_)
          rintro v0 - v1 - v2 - v3 - v4 - v5 - v6 - v7 - v8 - v9 - v10 - v11 - v12 - v13 - v14 - v15 - v16 - v17 - v18 - v19 - v20 - v21 - v22 - v23 - v24 - v25 - v26 - v27 h27
          obtain rfl : v27 = (str (((d ++ (Vint.text (base x.p))) ++ (Vint.num (UInt64.ofInt x.kind).toNat)) ++ (Vint.sum (Mix.of (textP l x.p)).1 (Mix.of (textP l x.p)).2))) := h27
          simp only [GFin, Act.put, List.setIfInBounds_toArray, List.set_cons_succ, List.set_cons_zero]
          have gn := Lib.hid (Gr.trans gz.out hg)
          have hdn2 := hdn.out
          unfold entryP at hdn2
          rw [← List.append_assoc, ← List.append_assoc] at hdn2
          replace hdn2 := Lib.hid hdn2
          clear hg gz hdn hba hte hnu hih hof hsu e0 e1 e2 e3 e4 hbl
          go_wp2
          exact ⟨⟨k + 1, _, by omega, rfl, by go_num, Lib.hid ⟨hdn2.out, gn.out⟩⟩, by simp [intOf]; omega⟩
        · obtain rfl : k = K.length := by omega
          rw [List.take_length, ← hnl.out] at hd
          subst hd
          have gn := Lib.hid (Gr.trans g2.out gz)
          clear gz g2 hnl ih hkd hkk
          go_wp2
          go_ret
          exact ⟨rfl, gn.out⟩
    · have hpb : p.isEmpty = false := by simpa using h0
      cases ea : at_ l p with
      | none =>
        have hi : atI l p = -1 := by unfold atI; rw [ea]
        rw [hi]
        have hnl := textP_dir (not_leaf_none (p := p) (at_none ea).2)
        rw [hL] at hnl
        replace hnl := Lib.hid hnl
        clear hL
        clear hi ea h0
        have hk2 := Lib.hid (hki.out w h.out)
        go_wp2_with fail
        go_at_call 47
        refine hk2.out.mono ?_
        rintro e w2 ⟨A2, c2, rfl, o2, g2⟩
        have hkk := Lib.hid (fun k (hk : k ∈ kids l p) => (hf.out.2 k (kids_mem hk)).1)
        have hKl := kids_len l p
        obtain ⟨K, hK⟩ : ∃ K, kids l p = K := ⟨_, rfl⟩
        rw [hK] at hKl hkk hkd hnl o2
        rw [hK]
        have t2 := Lib.hid (OR.reads o2)
        have t1 := Lib.hid (h.out.on g2)
        replace g2 := Lib.hid g2
        clear hk2 hki o2 hK h
        go_wp2
        go_loopw [7, 8] (fun v7 v8 wr => ∃ (k : Nat) (d : List UInt8), k ≤ K.length ∧ v7 = str d ∧ v8 = .int .i64 (k : Int) ∧ Hid (d = (K.take k).flatMap (entryP l) ∧ Gr w2 wr)) (fun _ v8 _ => K.length - (intOf v8).toNat)
        case atStart => exact ⟨0, [], by omega, rfl, rfl, Lib.hid ⟨rfl, Gr.refl _⟩⟩
        case round =>
          obtain ⟨k, d, hk, rfl, rfl, hst⟩ := hrel
          obtain ⟨hd, gz⟩ := hst.out
          clear hst
          by_cases hkl : k < K.length
          · have ij : (k : Int) < (K.length : Int) := by omega
            have kw : IntKind.i64.wrap ((k : Int) + 1) = (k : Int) + 1 := IntWalk.i64_in _ (by omega)
            have hnr := (show NR w2 w2.heap.size A2 K from t2.out).below gz
            obtain ⟨kd, rfl, hlt', e0, e1, e2, e3, e4⟩ := NR.at_ hnr hkl
            have sz := Below.size gz
            have hbl : (kd.add (k * 5)).block < wr.heap.size := by rw [block_of_add]; omega
            have hdn : d ++ entryP l K[k] = (K.take (k + 1)).flatMap (entryP l) := by rw [List.take_succ_eq_append_getElem hkl, List.flatMap_append, hd]; simp
            have hdl : d.length ≤ 39000 := by
              rw [hd]
              refine Nat.le_trans (flat_len_le _ 39 (entryP_len l) _) ?_
              rw [List.length_take]
              omega
            have hxk := hkk.out _ (List.getElem_mem hkl)
            have hxd := hkd.out _ (List.getElem_mem hkl)
            generalize K[k] = x at *
            have hba := Lib.hid (fun w => Pth.refBase_any x.p w hxk)
            have b1 := base_len x.p
            have hte := Lib.hid (fun w => Vint.refText_any (base x.p) w (by omega))
            have hnu := Lib.hid (fun w => Vint.refNum_any (UInt64.ofInt x.kind) w)
            have hih := Lib.hid (fun w' (hg : Gr wr w') => ih.out x.p w' hxd (t1.out.on (Gr.trans gz hg)))
            have htl := textP_len hf.out.1 (fun y hy => (hf.out.2 y hy).2) x.p
            have hof := Lib.hid (fun w => Mix.refOf_any (textP l x.p) w (by omega))
            have hsu := Lib.hid (fun w => Vint.refSum_any (Mix.of (textP l x.p)).1 (Mix.of (textP l x.p)).2 w)
            have q1 : (Vint.text (base x.p)).length ≤ 30 := by
              have := entryP_len l x
              unfold entryP at this
              rw [List.length_append] at this
              unfold Vint.text at this ⊢
              have h3 : (Vint.num (base x.p).length).length ≤ 1 := Vint.num_length 0 _ (by omega)
              rw [List.length_append]
              omega
            have q2 := num_len10 (UInt64.ofInt x.kind)
            have q3 := sum_length (Mix.of (textP l x.p)).1 (Mix.of (textP l x.p)).2
            replace gz := Lib.hid gz
            replace hdn := Lib.hid hdn
            clear hd hnr hlt' hxk hxd b1 htl ih
            go_wp2
            refine region_grow rfl (by kernel_rfl) ?_
            refine GW.mv rfl trivial (.inl rfl) (kn0 (t := 7) (c := str d) (by kernel_rfl) rfl) (eqv_lasts _) ?_
            refine GW.mv rfl trivial (.inl rfl) (kn0 (t := 6) (c := .slice (some kd) K.length c2) (by kernel_rfl) rfl) (eqv_lasts _) ?_
            refine GW.mv rfl trivial (.inl rfl) (kn0 (t := 8) (c := .int .i64 (k : Int)) (by kernel_rfl) rfl) (eqv_lasts _) ?_
            refine GW.p2 (.pointer (some (kd.add (k * 5)))) rfl trivial (kn (t := 41) (j := 1) (by kernel_rfl)) (kn (t := 42) (j := 2) (by kernel_rfl)) (fun ρ w' h1 h2 hg => by show ((Instr.indexAt 22 (ρ (.tmp 41)) (ρ (.tmp 42)) >>= fun v => pure (Next.value v)) : Sem Next).run Try.prog w' = _; rw [h1, h2, Sem.run_bind, run_idxR w' Try.underlying22 (size := 5) (by kernel_rfl) kd _ _ k hkl]; simp) ?_
            refine GW.p1 (.pointer (some (kd.add (k * 5)))) rfl trivial (kn (t := 43) (j := 3) (by kernel_rfl)) (fun ρ w' hρ hg => by simp [execOp, hρ, go_sem]) ?_
            refine GW.p1 (str x.p) rfl trivial (kn (t := 44) (j := 4) (by kernel_rfl)) (fun ρ w' hρ hg => by simp [execOp, hρ, go_sem, (hg.cell (p := (kd.add (k * 5))) hbl).trans e0]) ?_
            refine GW.call1 (eqv (str (base x.p))) rfl trivial rfl Try.func49 (by kernel_rfl) (by kernel_rfl) (eqv_lasts _) (kn (t := 45) (j := 5) (by kernel_rfl)) (fun v w' hg hv => ?_) ?_
            · obtain rfl : v = _ := hv
              refine (hba.out w').mono ?_
              rintro e w9 ⟨rfl, hg9⟩
              exact ⟨_, rfl, rfl, hg9⟩
            refine GW.call1 (eqv (str (Vint.text (base x.p)))) rfl trivial rfl Try.func48 (by kernel_rfl) (by kernel_rfl) (eqv_lasts _) (kn (t := 46) (j := 6) (by kernel_rfl)) (fun v w' hg hv => ?_) ?_
            · obtain rfl : v = _ := hv
              refine (hte.out w').mono ?_
              rintro e w9 ⟨rfl, hg9⟩
              exact ⟨_, rfl, rfl, hg9⟩
            refine GW.cat d (Vint.text (base x.p)) (by first | omega | (simp; done) | (simp; omega)) rfl trivial rfl (kn (t := 40) (j := 0) (by kernel_rfl)) (kn (t := 47) (j := 7) (by kernel_rfl)) ?_
            refine GW.mv rfl trivial (.inl rfl) (kn0 (t := 6) (c := .slice (some kd) K.length c2) (by kernel_rfl) rfl) (eqv_lasts _) ?_
            refine GW.mv rfl trivial (.inl rfl) (kn0 (t := 8) (c := .int .i64 (k : Int)) (by kernel_rfl) rfl) (eqv_lasts _) ?_
            refine GW.p2 (.pointer (some (kd.add (k * 5)))) rfl trivial (kn (t := 49) (j := 9) (by kernel_rfl)) (kn (t := 50) (j := 10) (by kernel_rfl)) (fun ρ w' h1 h2 hg => by show ((Instr.indexAt 22 (ρ (.tmp 49)) (ρ (.tmp 50)) >>= fun v => pure (Next.value v)) : Sem Next).run Try.prog w' = _; rw [h1, h2, Sem.run_bind, run_idxR w' Try.underlying22 (size := 5) (by kernel_rfl) kd _ _ k hkl]; simp) ?_
            refine GW.p1 (.pointer (some ⟨(kd.add (k * 5)).block, (kd.add (k * 5)).off + 1, none⟩)) rfl trivial (kn (t := 51) (j := 11) (by kernel_rfl)) (fun ρ w' hρ hg => by simp [execOp, hρ, go_sem]) ?_
            refine GW.p1 (.int .i64 x.kind) rfl trivial (kn (t := 52) (j := 12) (by kernel_rfl)) (fun ρ w' hρ hg => by simp [execOp, hρ, go_sem, (hg.cell (p := ⟨(kd.add (k * 5)).block, (kd.add (k * 5)).off + 1, none⟩) hbl).trans e1]) ?_
            refine GW.p1 (.int .u64 (n64 (UInt64.ofInt x.kind))) rfl trivial (kn (t := 53) (j := 13) (by kernel_rfl)) (fun ρ w' hρ hg => by simp [execOp, hρ, go_sem]) ?_
            refine GW.call1 (eqv (str (Vint.num (UInt64.ofInt x.kind).toNat))) rfl trivial rfl Try.func50 (by kernel_rfl) (by kernel_rfl) (eqv_lasts _) (kn (t := 54) (j := 14) (by kernel_rfl)) (fun v w' hg hv => ?_) ?_
            · obtain rfl : v = _ := hv
              refine (hnu.out w').mono ?_
              rintro e w9 ⟨rfl, hg9⟩
              exact ⟨_, rfl, rfl, hg9⟩
            refine GW.cat (d ++ (Vint.text (base x.p))) (Vint.num (UInt64.ofInt x.kind).toNat) (by first | omega | (simp; done) | (simp; omega)) rfl trivial rfl (kn (t := 48) (j := 8) (by kernel_rfl)) (kn (t := 55) (j := 15) (by kernel_rfl)) ?_
            refine GW.mv rfl trivial (.inl rfl) (kn0 (t := 0) (c := .slice A l.length c) (by kernel_rfl) rfl) (eqv_lasts _) ?_
            refine GW.mv rfl trivial (.inl rfl) (kn0 (t := 6) (c := .slice (some kd) K.length c2) (by kernel_rfl) rfl) (eqv_lasts _) ?_
            refine GW.mv rfl trivial (.inl rfl) (kn0 (t := 8) (c := .int .i64 (k : Int)) (by kernel_rfl) rfl) (eqv_lasts _) ?_
            refine GW.p2 (.pointer (some (kd.add (k * 5)))) rfl trivial (kn (t := 58) (j := 18) (by kernel_rfl)) (kn (t := 59) (j := 19) (by kernel_rfl)) (fun ρ w' h1 h2 hg => by show ((Instr.indexAt 22 (ρ (.tmp 58)) (ρ (.tmp 59)) >>= fun v => pure (Next.value v)) : Sem Next).run Try.prog w' = _; rw [h1, h2, Sem.run_bind, run_idxR w' Try.underlying22 (size := 5) (by kernel_rfl) kd _ _ k hkl]; simp) ?_
            refine GW.p1 (.pointer (some (kd.add (k * 5)))) rfl trivial (kn (t := 60) (j := 20) (by kernel_rfl)) (fun ρ w' hρ hg => by simp [execOp, hρ, go_sem]) ?_
            refine GW.p1 (str x.p) rfl trivial (kn (t := 61) (j := 21) (by kernel_rfl)) (fun ρ w' hρ hg => by simp [execOp, hρ, go_sem, (hg.cell (p := (kd.add (k * 5))) hbl).trans e0]) ?_
            refine GW.call2 (eqv (str (textP l x.p))) rfl trivial rfl Try.func29 (by kernel_rfl) (by kernel_rfl) (eqv_lasts _) (kn (t := 57) (j := 17) (by kernel_rfl)) (kn (t := 62) (j := 22) (by kernel_rfl)) (fun v u w' hg hv hu => ?_) ?_
            · obtain rfl : v = _ := hv
              obtain rfl : u = _ := hu
              refine (hih.out w' hg).mono ?_
              rintro e w9 ⟨rfl, hg9⟩
              exact ⟨_, rfl, rfl, hg9⟩
            refine GW.call1 (eqv (Mix.sumV (Mix.of (textP l x.p)))) rfl trivial rfl Try.func18 (by kernel_rfl) (by kernel_rfl) (eqv_lasts _) (kn (t := 63) (j := 23) (by kernel_rfl)) (fun v w' hg hv => ?_) ?_
            · obtain rfl : v = _ := hv
              refine (hof.out w').mono ?_
              rintro e w9 ⟨rfl, hg9⟩
              exact ⟨_, rfl, rfl, hg9⟩
            refine GW.call1 (eqv (str (Vint.sum (Mix.of (textP l x.p)).1 (Mix.of (textP l x.p)).2))) rfl trivial rfl Try.func51 (by kernel_rfl) (by kernel_rfl) (eqv_lasts _) (kn (t := 64) (j := 24) (by kernel_rfl)) (fun v w' hg hv => ?_) ?_
            · obtain rfl : v = _ := hv
              refine (hsu.out w').mono ?_
              rintro e w9 ⟨rfl, hg9⟩
              exact ⟨_, rfl, rfl, hg9⟩
            refine GW.cat ((d ++ (Vint.text (base x.p))) ++ (Vint.num (UInt64.ofInt x.kind).toNat)) (Vint.sum (Mix.of (textP l x.p)).1 (Mix.of (textP l x.p)).2) (by first | omega | (simp; done) | (simp; omega)) rfl trivial rfl (kn (t := 56) (j := 16) (by kernel_rfl)) (kn (t := 65) (j := 25) (by kernel_rfl)) ?_
            refine GW.mv rfl trivial (.inr rfl) (kn (t := 66) (j := 26) (by kernel_rfl)) (eqv_lasts _) ?_
            refine GW.done (by simp) (by kernel_rfl) (fun w' hg => ?_)
            rintro v0 - v1 - v2 - v3 - v4 - v5 - v6 - v7 - v8 - v9 - v10 - v11 - v12 - v13 - v14 - v15 - v16 - v17 - v18 - v19 - v20 - v21 - v22 - v23 - v24 - v25 - v26 - v27 h27
            obtain rfl : v27 = (str (((d ++ (Vint.text (base x.p))) ++ (Vint.num (UInt64.ofInt x.kind).toNat)) ++ (Vint.sum (Mix.of (textP l x.p)).1 (Mix.of (textP l x.p)).2))) := h27
            simp only [GFin, Act.put, List.setIfInBounds_toArray, List.set_cons_succ, List.set_cons_zero]
            have gn := Lib.hid (Gr.trans gz.out hg)
            have hdn2 := hdn.out
            unfold entryP at hdn2
            rw [← List.append_assoc, ← List.append_assoc] at hdn2
            replace hdn2 := Lib.hid hdn2
            clear hg gz hdn hba hte hnu hih hof hsu e0 e1 e2 e3 e4 hbl
            go_wp2
            exact ⟨⟨k + 1, _, by omega, rfl, by go_num, Lib.hid ⟨hdn2.out, gn.out⟩⟩, by simp [intOf]; omega⟩
          · obtain rfl : k = K.length := by omega
            rw [List.take_length, ← hnl.out] at hd
            subst hd
            have gn := Lib.hid (Gr.trans g2.out gz)
            clear gz g2 hnl ih hkd hkk
            go_wp2
            go_ret
            exact ⟨rfl, gn.out⟩
      | some i =>
        have hi : atI l p = (i : Int) := by unfold atI; rw [ea]
        rw [hi]
        obtain ⟨hil, _, hfi⟩ := at_some ea
        obtain ⟨ad, hA, hlt, e0, e1, e2, e3, e4⟩ := h.out.at_ hil
        subst hA
        have ii0 : (0 : Int) ≤ (i : Int) := by omega
        have iil : (i : Int) < (l.length : Int) := by omega
        clear hi ea hlt e0 e2 e3
        by_cases hk1 : l[i].kind = 1
        · have hnl := textP_dir (not_leaf_dir hfi hk1)
          rw [hL] at hnl
          replace hnl := Lib.hid hnl
          clear hL
          have kb : (l[i].kind != 1) = false := by simpa using hk1
          rw [hk1] at e1
          clear hk1 kb e4 hfi h0
          have hk2 := Lib.hid (hki.out w h.out)
          go_wp2_with fail
          go_at_call 47
          refine hk2.out.mono ?_
          rintro e w2 ⟨A2, c2, rfl, o2, g2⟩
          have hkk := Lib.hid (fun k (hk : k ∈ kids l p) => (hf.out.2 k (kids_mem hk)).1)
          have hKl := kids_len l p
          obtain ⟨K, hK⟩ : ∃ K, kids l p = K := ⟨_, rfl⟩
          rw [hK] at hKl hkk hkd hnl o2
          rw [hK]
          have t2 := Lib.hid (OR.reads o2)
          have t1 := Lib.hid (h.out.on g2)
          replace g2 := Lib.hid g2
          clear hk2 hki o2 hK h
          go_wp2
          go_loopw [7, 8] (fun v7 v8 wr => ∃ (k : Nat) (d : List UInt8), k ≤ K.length ∧ v7 = str d ∧ v8 = .int .i64 (k : Int) ∧ Hid (d = (K.take k).flatMap (entryP l) ∧ Gr w2 wr)) (fun _ v8 _ => K.length - (intOf v8).toNat)
          case atStart => exact ⟨0, [], by omega, rfl, rfl, Lib.hid ⟨rfl, Gr.refl _⟩⟩
          case round =>
            obtain ⟨k, d, hk, rfl, rfl, hst⟩ := hrel
            obtain ⟨hd, gz⟩ := hst.out
            clear hst
            by_cases hkl : k < K.length
            · have ij : (k : Int) < (K.length : Int) := by omega
              have kw : IntKind.i64.wrap ((k : Int) + 1) = (k : Int) + 1 := IntWalk.i64_in _ (by omega)
              have hnr := (show NR w2 w2.heap.size A2 K from t2.out).below gz
              obtain ⟨kd, rfl, hlt', e0, e1, e2, e3, e4⟩ := NR.at_ hnr hkl
              have sz := Below.size gz
              have hbl : (kd.add (k * 5)).block < wr.heap.size := by rw [block_of_add]; omega
              have hdn : d ++ entryP l K[k] = (K.take (k + 1)).flatMap (entryP l) := by rw [List.take_succ_eq_append_getElem hkl, List.flatMap_append, hd]; simp
              have hdl : d.length ≤ 39000 := by
                rw [hd]
                refine Nat.le_trans (flat_len_le _ 39 (entryP_len l) _) ?_
                rw [List.length_take]
                omega
              have hxk := hkk.out _ (List.getElem_mem hkl)
              have hxd := hkd.out _ (List.getElem_mem hkl)
              generalize K[k] = x at *
              have hba := Lib.hid (fun w => Pth.refBase_any x.p w hxk)
              have b1 := base_len x.p
              have hte := Lib.hid (fun w => Vint.refText_any (base x.p) w (by omega))
              have hnu := Lib.hid (fun w => Vint.refNum_any (UInt64.ofInt x.kind) w)
              have hih := Lib.hid (fun w' (hg : Gr wr w') => ih.out x.p w' hxd (t1.out.on (Gr.trans gz hg)))
              have htl := textP_len hf.out.1 (fun y hy => (hf.out.2 y hy).2) x.p
              have hof := Lib.hid (fun w => Mix.refOf_any (textP l x.p) w (by omega))
              have hsu := Lib.hid (fun w => Vint.refSum_any (Mix.of (textP l x.p)).1 (Mix.of (textP l x.p)).2 w)
              have q1 : (Vint.text (base x.p)).length ≤ 30 := by
                have := entryP_len l x
                unfold entryP at this
                rw [List.length_append] at this
                unfold Vint.text at this ⊢
                have h3 : (Vint.num (base x.p).length).length ≤ 1 := Vint.num_length 0 _ (by omega)
                rw [List.length_append]
                omega
              have q2 := num_len10 (UInt64.ofInt x.kind)
              have q3 := sum_length (Mix.of (textP l x.p)).1 (Mix.of (textP l x.p)).2
              replace gz := Lib.hid gz
              replace hdn := Lib.hid hdn
              clear hd hnr hlt' hxk hxd b1 htl ih
              go_wp2
              refine region_grow rfl (by kernel_rfl) ?_
              refine GW.mv rfl trivial (.inl rfl) (kn0 (t := 7) (c := str d) (by kernel_rfl) rfl) (eqv_lasts _) ?_
              refine GW.mv rfl trivial (.inl rfl) (kn0 (t := 6) (c := .slice (some kd) K.length c2) (by kernel_rfl) rfl) (eqv_lasts _) ?_
              refine GW.mv rfl trivial (.inl rfl) (kn0 (t := 8) (c := .int .i64 (k : Int)) (by kernel_rfl) rfl) (eqv_lasts _) ?_
              refine GW.p2 (.pointer (some (kd.add (k * 5)))) rfl trivial (kn (t := 41) (j := 1) (by kernel_rfl)) (kn (t := 42) (j := 2) (by kernel_rfl)) (fun ρ w' h1 h2 hg => by show ((Instr.indexAt 22 (ρ (.tmp 41)) (ρ (.tmp 42)) >>= fun v => pure (Next.value v)) : Sem Next).run Try.prog w' = _; rw [h1, h2, Sem.run_bind, run_idxR w' Try.underlying22 (size := 5) (by kernel_rfl) kd _ _ k hkl]; simp) ?_
              refine GW.p1 (.pointer (some (kd.add (k * 5)))) rfl trivial (kn (t := 43) (j := 3) (by kernel_rfl)) (fun ρ w' hρ hg => by simp [execOp, hρ, go_sem]) ?_
              refine GW.p1 (str x.p) rfl trivial (kn (t := 44) (j := 4) (by kernel_rfl)) (fun ρ w' hρ hg => by simp [execOp, hρ, go_sem, (hg.cell (p := (kd.add (k * 5))) hbl).trans e0]) ?_
              refine GW.call1 (eqv (str (base x.p))) rfl trivial rfl Try.func49 (by kernel_rfl) (by kernel_rfl) (eqv_lasts _) (kn (t := 45) (j := 5) (by kernel_rfl)) (fun v w' hg hv => ?_) ?_
              · obtain rfl : v = _ := hv
                refine (hba.out w').mono ?_
                rintro e w9 ⟨rfl, hg9⟩
                exact ⟨_, rfl, rfl, hg9⟩
              refine GW.call1 (eqv (str (Vint.text (base x.p)))) rfl trivial rfl Try.func48 (by kernel_rfl) (by kernel_rfl) (eqv_lasts _) (kn (t := 46) (j := 6) (by kernel_rfl)) (fun v w' hg hv => ?_) ?_
              · obtain rfl : v = _ := hv
                refine (hte.out w').mono ?_
                rintro e w9 ⟨rfl, hg9⟩
                exact ⟨_, rfl, rfl, hg9⟩
              refine GW.cat d (Vint.text (base x.p)) (by first | omega | (simp; done) | (simp; omega)) rfl trivial rfl (kn (t := 40) (j := 0) (by kernel_rfl)) (kn (t := 47) (j := 7) (by kernel_rfl)) ?_
              refine GW.mv rfl trivial (.inl rfl) (kn0 (t := 6) (c := .slice (some kd) K.length c2) (by kernel_rfl) rfl) (eqv_lasts _) ?_
              refine GW.mv rfl trivial (.inl rfl) (kn0 (t := 8) (c := .int .i64 (k : Int)) (by kernel_rfl) rfl) (eqv_lasts _) ?_
              refine GW.p2 (.pointer (some (kd.add (k * 5)))) rfl trivial (kn (t := 49) (j := 9) (by kernel_rfl)) (kn (t := 50) (j := 10) (by kernel_rfl)) (fun ρ w' h1 h2 hg => by show ((Instr.indexAt 22 (ρ (.tmp 49)) (ρ (.tmp 50)) >>= fun v => pure (Next.value v)) : Sem Next).run Try.prog w' = _; rw [h1, h2, Sem.run_bind, run_idxR w' Try.underlying22 (size := 5) (by kernel_rfl) kd _ _ k hkl]; simp) ?_
              refine GW.p1 (.pointer (some ⟨(kd.add (k * 5)).block, (kd.add (k * 5)).off + 1, none⟩)) rfl trivial (kn (t := 51) (j := 11) (by kernel_rfl)) (fun ρ w' hρ hg => by simp [execOp, hρ, go_sem]) ?_
              refine GW.p1 (.int .i64 x.kind) rfl trivial (kn (t := 52) (j := 12) (by kernel_rfl)) (fun ρ w' hρ hg => by simp [execOp, hρ, go_sem, (hg.cell (p := ⟨(kd.add (k * 5)).block, (kd.add (k * 5)).off + 1, none⟩) hbl).trans e1]) ?_
              refine GW.p1 (.int .u64 (n64 (UInt64.ofInt x.kind))) rfl trivial (kn (t := 53) (j := 13) (by kernel_rfl)) (fun ρ w' hρ hg => by simp [execOp, hρ, go_sem]) ?_
              refine GW.call1 (eqv (str (Vint.num (UInt64.ofInt x.kind).toNat))) rfl trivial rfl Try.func50 (by kernel_rfl) (by kernel_rfl) (eqv_lasts _) (kn (t := 54) (j := 14) (by kernel_rfl)) (fun v w' hg hv => ?_) ?_
              · obtain rfl : v = _ := hv
                refine (hnu.out w').mono ?_
                rintro e w9 ⟨rfl, hg9⟩
                exact ⟨_, rfl, rfl, hg9⟩
              refine GW.cat (d ++ (Vint.text (base x.p))) (Vint.num (UInt64.ofInt x.kind).toNat) (by first | omega | (simp; done) | (simp; omega)) rfl trivial rfl (kn (t := 48) (j := 8) (by kernel_rfl)) (kn (t := 55) (j := 15) (by kernel_rfl)) ?_
              refine GW.mv rfl trivial (.inl rfl) (kn0 (t := 0) (c := .slice (some ad) l.length c) (by kernel_rfl) rfl) (eqv_lasts _) ?_
              refine GW.mv rfl trivial (.inl rfl) (kn0 (t := 6) (c := .slice (some kd) K.length c2) (by kernel_rfl) rfl) (eqv_lasts _) ?_
              refine GW.mv rfl trivial (.inl rfl) (kn0 (t := 8) (c := .int .i64 (k : Int)) (by kernel_rfl) rfl) (eqv_lasts _) ?_
              refine GW.p2 (.pointer (some (kd.add (k * 5)))) rfl trivial (kn (t := 58) (j := 18) (by kernel_rfl)) (kn (t := 59) (j := 19) (by kernel_rfl)) (fun ρ w' h1 h2 hg => by show ((Instr.indexAt 22 (ρ (.tmp 58)) (ρ (.tmp 59)) >>= fun v => pure (Next.value v)) : Sem Next).run Try.prog w' = _; rw [h1, h2, Sem.run_bind, run_idxR w' Try.underlying22 (size := 5) (by kernel_rfl) kd _ _ k hkl]; simp) ?_
              refine GW.p1 (.pointer (some (kd.add (k * 5)))) rfl trivial (kn (t := 60) (j := 20) (by kernel_rfl)) (fun ρ w' hρ hg => by simp [execOp, hρ, go_sem]) ?_
              refine GW.p1 (str x.p) rfl trivial (kn (t := 61) (j := 21) (by kernel_rfl)) (fun ρ w' hρ hg => by simp [execOp, hρ, go_sem, (hg.cell (p := (kd.add (k * 5))) hbl).trans e0]) ?_
              refine GW.call2 (eqv (str (textP l x.p))) rfl trivial rfl Try.func29 (by kernel_rfl) (by kernel_rfl) (eqv_lasts _) (kn (t := 57) (j := 17) (by kernel_rfl)) (kn (t := 62) (j := 22) (by kernel_rfl)) (fun v u w' hg hv hu => ?_) ?_
              · obtain rfl : v = _ := hv
                obtain rfl : u = _ := hu
                refine (hih.out w' hg).mono ?_
                rintro e w9 ⟨rfl, hg9⟩
                exact ⟨_, rfl, rfl, hg9⟩
              refine GW.call1 (eqv (Mix.sumV (Mix.of (textP l x.p)))) rfl trivial rfl Try.func18 (by kernel_rfl) (by kernel_rfl) (eqv_lasts _) (kn (t := 63) (j := 23) (by kernel_rfl)) (fun v w' hg hv => ?_) ?_
              · obtain rfl : v = _ := hv
                refine (hof.out w').mono ?_
                rintro e w9 ⟨rfl, hg9⟩
                exact ⟨_, rfl, rfl, hg9⟩
              refine GW.call1 (eqv (str (Vint.sum (Mix.of (textP l x.p)).1 (Mix.of (textP l x.p)).2))) rfl trivial rfl Try.func51 (by kernel_rfl) (by kernel_rfl) (eqv_lasts _) (kn (t := 64) (j := 24) (by kernel_rfl)) (fun v w' hg hv => ?_) ?_
              · obtain rfl : v = _ := hv
                refine (hsu.out w').mono ?_
                rintro e w9 ⟨rfl, hg9⟩
                exact ⟨_, rfl, rfl, hg9⟩
              refine GW.cat ((d ++ (Vint.text (base x.p))) ++ (Vint.num (UInt64.ofInt x.kind).toNat)) (Vint.sum (Mix.of (textP l x.p)).1 (Mix.of (textP l x.p)).2) (by first | omega | (simp; done) | (simp; omega)) rfl trivial rfl (kn (t := 56) (j := 16) (by kernel_rfl)) (kn (t := 65) (j := 25) (by kernel_rfl)) ?_
              refine GW.mv rfl trivial (.inr rfl) (kn (t := 66) (j := 26) (by kernel_rfl)) (eqv_lasts _) ?_
              refine GW.done (by simp) (by kernel_rfl) (fun w' hg => ?_)
              rintro v0 - v1 - v2 - v3 - v4 - v5 - v6 - v7 - v8 - v9 - v10 - v11 - v12 - v13 - v14 - v15 - v16 - v17 - v18 - v19 - v20 - v21 - v22 - v23 - v24 - v25 - v26 - v27 h27
              obtain rfl : v27 = (str (((d ++ (Vint.text (base x.p))) ++ (Vint.num (UInt64.ofInt x.kind).toNat)) ++ (Vint.sum (Mix.of (textP l x.p)).1 (Mix.of (textP l x.p)).2))) := h27
              simp only [GFin, Act.put, List.setIfInBounds_toArray, List.set_cons_succ, List.set_cons_zero]
              have gn := Lib.hid (Gr.trans gz.out hg)
              have hdn2 := hdn.out
              unfold entryP at hdn2
              rw [← List.append_assoc, ← List.append_assoc] at hdn2
              replace hdn2 := Lib.hid hdn2
              clear hg gz hdn hba hte hnu hih hof hsu e0 e1 e2 e3 e4 hbl
              go_wp2
              exact ⟨⟨k + 1, _, by omega, rfl, by go_num, Lib.hid ⟨hdn2.out, gn.out⟩⟩, by simp [intOf]; omega⟩
            · obtain rfl : k = K.length := by omega
              rw [List.take_length, ← hnl.out] at hd
              subst hd
              have gn := Lib.hid (Gr.trans g2.out gz)
              clear gz g2 hnl ih hkd hkk
              go_wp2
              go_ret
              exact ⟨rfl, gn.out⟩
        · have hnl := textP_leaf (is_leaf h0 hfi hk1)
          rw [hfi, hL] at hnl
          clear hL
          obtain rfl : L = l[i].data := hnl
          have kb : (l[i].kind != 1) = true := by simpa using hk1
          clear hk1 hfi h0 hkd hki ih
          go_wp2
          go_ret
          exact ⟨rfl, Gr.refl _⟩
theorem refText_any (A : Option Addr) (c : Nat) (l : List Nd) (hf : Fit l) (p : List UInt8) (w : World) (h : NR w w.heap.size A l) :
    Calls Try.prog 29 #[.slice A l.length c, str p] w fun e w' => e = .returned (str (textP l p)) ∧ Gr w w' := refText_depth A c l hf 17 p w (by omega) h
def printV : Option Mix.St → Value
  | none => .tuple #[Mix.sumV (0, 0), .bool false]
  | some s => .tuple #[Mix.sumV s, .bool true]
end Tr
end Go.Proofs.Yteadcblmomngpaa
namespace Go.Proofs.Yteadcblmomngpaa
open Go Go.RowKit Go.Shelf W Pth
namespace Tr
abbrev smA (s : Mix.St) : Array Value := #[.int .u64 (n64 s.1), .int .u64 (n64 s.2)]
theorem sumInfo (a b : Value) : (Try.prog.info? 30).map (·.size) = some (#[a, b] : Array Value).size := by kernel_rfl
theorem printP_some {t : List Nd} {p : List UInt8} (h : p = [] ∨ find t p ≠ none) : printP t p = some (Mix.of (textP t p)) := if_neg (fun e => h.elim e.1 (fun h => h e.2))
theorem printP_none {t : List Nd} {p : List UInt8} (h : p ≠ []) (h2 : find t p = none) : printP t p = none := if_pos ⟨h, h2⟩
set_option maxRecDepth 100000 in
set_option maxHeartbeats 4000000 in
theorem refPrint_any (A : Option Addr) (c : Nat) (l : List Nd) (hf : Fit l) (p : List UInt8) (w : World) (h : NR w w.heap.size A l) :
    Calls Try.prog 15 #[.slice A l.length c, str p] w fun e w' => e = .returned (printV (printP l p)) ∧ Gr w w' := by
  obtain ⟨r, hr⟩ : ∃ r, printP l p = r := ⟨_, rfl⟩
  rw [hr]
  have hl1 := hf.1
  have b0 := Lib.hid (Blk.new w 30 (smA (0, 0)))
  have g0 := (Gr.refl w).alloc (.cells (smA (0, 0)) 30)
  have h1 := h.on g0
  have hat := Lib.hid (refAt_any A c l.length l p _ _ rfl h1 (by omega))
  have hte := Lib.hid (refText_any A c l hf p _ h1)
  have htl := textP_len hl1 (fun y hy => (hf.2 y hy).2) p
  replace g0 := Lib.hid g0
  clear h h1
  obtain ⟨T, hT⟩ : ∃ T, textP l p = T := ⟨_, rfl⟩
  rw [hT] at hte htl
  have hof := Lib.hid (fun w => Mix.refOf_any T w (by omega))
  obtain ⟨S, hS⟩ : ∃ S, Mix.of T = S := ⟨_, rfl⟩
  rw [hS] at hof
  obtain ⟨sx, sy⟩ := S
  have hof2 : Hid (∀ w, Calls Try.prog 18 #[str T] w fun e w' => e = .returned (.agg (smA (sx, sy))) ∧ Gr w w') := hof
  clear hof
  go_enter Try.func15, Try.ntmps15
  by_cases hp : p = []
  · have hre : r = some (sx, sy) := by rw [← hr, printP_some (.inl hp), hT, hS]
    subst hre
    subst hp
    clear hr hat hT hf hS
    go_wp2_with fail
    go_at_call 29
    refine hte.out.mono ?_
    rintro e w1 ⟨rfl, g1⟩
    have b1 := Lib.hid (blk_more b0.out g1)
    have g2 := Lib.hid (Gr.trans g0.out g1)
    clear hte g1 b0 g0
    go_wp2_with fail
    go_at_call 18
    refine (hof2.out _).mono ?_
    rintro e w2 ⟨rfl, g3⟩
    have b2 := Lib.hid (blk_more b1.out g3)
    have g4 := Lib.hid (Gr.trans g2.out g3)
    have s2 := b2.out.lt
    clear hof2 g3 b1 g2
    go_wp2_with (first
      | ((with_reducible refine wpList_isStore 30 (.tmp 4) (.tmp 18) rfl ?_); refine wpList_store_blk rfl 30 (.tmp 4) (.tmp 18) rfl w.heap.size (smA (sx, sy)) rfl rfl 30 (smA (0, 0)) b2.out (sumInfo _ _) rfl (by simp [Value.oneCell']) ?_; intro w8 n8' k8 z8; have g8 := Lib.hid (Below.trans g4.out (Kb.below k8 (Nat.le_of_lt s2))); replace n8' := Lib.hid n8'; clear k8 z8 g4 b2))
    exact bodyPost_ret (results_cell_one Try.results15 _ _ w.heap.size 30 _ (0, 0) _ rfl n8'.out Try.underlying30 rfl (sumInfo _ _)) rfl ⟨rfl, g8.out⟩
  · have hpb : p.isEmpty = false := by simpa using hp
    cases ea : at_ l p with
    | none =>
      have hre : r = none := by rw [← hr, printP_none hp (at_none ea).2]
      have hi : atI l p = -1 := by unfold atI; rw [ea]
      rw [hi] at hat
      subst hre
      clear hr hi ea hp hte hof2 hT hS hf
      go_wp2_with fail
      go_at_call 12
      refine hat.out.mono ?_
      rintro e w1 ⟨rfl, rfl⟩
      have s2 := b0.out.lt
      clear hat
      go_wp2_with (first
        | ((with_reducible refine wpList_isStore 30 (.tmp 4) (.tmp 14) rfl ?_); refine wpList_store_blk rfl 30 (.tmp 4) (.tmp 14) rfl w.heap.size (smA (0, 0)) rfl rfl 30 (smA (0, 0)) b0.out (sumInfo _ _) rfl (by simp [Value.oneCell']) ?_; intro w8 n8' k8 z8; have g8 := Lib.hid (Below.trans g0.out (Kb.below k8 (Nat.le_of_lt s2))); replace n8' := Lib.hid n8'; clear k8 z8 g0 b0))
      exact bodyPost_ret (results_cell_one Try.results15 _ _ w.heap.size 30 _ (0, 0) _ rfl n8'.out Try.underlying30 rfl (sumInfo _ _)) rfl ⟨rfl, g8.out⟩
    | some i =>
      have hre : r = some (sx, sy) := by rw [← hr, printP_some (.inr (by obtain ⟨_, _, e⟩ := at_some ea; rw [e]; simp)), hT, hS]
      have hi : atI l p = (i : Int) := by unfold atI; rw [ea]
      have i0 : ¬ (i : Int) < 0 := by omega
      rw [hi] at hat
      subst hre
      clear hr hi ea hp hT hf hS
      go_wp2_with fail
      go_at_call 12
      refine hat.out.mono ?_
      rintro e w1 ⟨rfl, rfl⟩
      clear hat
      go_wp2_with fail
      go_at_call 29
      refine hte.out.mono ?_
      rintro e w1 ⟨rfl, g1⟩
      have b1 := Lib.hid (blk_more b0.out g1)
      have g2 := Lib.hid (Gr.trans g0.out g1)
      clear hte g1 b0 g0
      go_wp2_with fail
      go_at_call 18
      refine (hof2.out _).mono ?_
      rintro e w2 ⟨rfl, g3⟩
      have b2 := Lib.hid (blk_more b1.out g3)
      have g4 := Lib.hid (Gr.trans g2.out g3)
      have s2 := b2.out.lt
      clear hof2 g3 b1 g2
      go_wp2_with (first
        | ((with_reducible refine wpList_isStore 30 (.tmp 4) (.tmp 18) rfl ?_); refine wpList_store_blk rfl 30 (.tmp 4) (.tmp 18) rfl w.heap.size (smA (sx, sy)) rfl rfl 30 (smA (0, 0)) b2.out (sumInfo _ _) rfl (by simp [Value.oneCell']) ?_; intro w8 n8' k8 z8; have g8 := Lib.hid (Below.trans g4.out (Kb.below k8 (Nat.le_of_lt s2))); replace n8' := Lib.hid n8'; clear k8 z8 g4 b2))
      exact bodyPost_ret (results_cell_one Try.results15 _ _ w.heap.size 30 _ (0, 0) _ rfl n8'.out Try.underlying30 rfl (sumInfo _ _)) rfl ⟨rfl, g8.out⟩
end Tr
end Go.Proofs.Yteadcblmomngpaa
namespace Go.Proofs.Yteadcblmomngpaa
open Go Go.RowKit Go.Shelf W Pth
namespace Tr
set_option maxRecDepth 100000 in
set_option maxHeartbeats 2000000 in
theorem data_any (n : Nd) (w : World) (hd : n.data.length ≤ 1000000) :
    Calls Try.prog 17 #[nV n] w fun e w' => e = .returned (.agg (smA (Mix.of n.data))) ∧ Gr w w' := by
  obtain ⟨pp, kk, md, tm, dd⟩ := n
  show Calls Try.prog 17 #[.agg #[str pp, .int .i64 kk, .int .i64 md, .int .i64 tm, str dd]] w fun e w' => e = .returned (.agg (smA (Mix.of dd))) ∧ Gr w w'
  replace hd : dd.length ≤ 1000000 := hd
  have hof : ∀ (A : Option Addr) (c : Nat) (w : World), dd.length ≤ c → RB w w.heap.size A dd → Calls Try.prog 34 #[.slice A dd.length c] w fun e w' => e = .returned (.agg (smA (Mix.of dd))) ∧ Gr w w' := fun A c w hc hr => Mix.of_any A c dd w (by omega) hc hr
  obtain ⟨S, hS⟩ : ∃ S, Mix.of dd = S := ⟨_, rfl⟩
  rw [hS] at hof ⊢
  obtain ⟨sx, sy⟩ := S
  replace hof := Lib.hid hof
  clear hS
  have b0 := Blk.new w 34 #[str pp, .int .i64 kk, .int .i64 md, .int .i64 tm, str dd]
  have g0 := (Gr.refl w).alloc (.cells #[str pp, .int .i64 kk, .int .i64 md, .int .i64 tm, str dd] 34)
  have b1 := Blk.new (w.alloc (.cells #[str pp, .int .i64 kk, .int .i64 md, .int .i64 tm, str dd] 34)) 30 (smA (0, 0))
  rw [World.size_alloc] at b1
  have g1 := Lib.hid (g0.alloc (.cells (smA (0, 0)) 30))
  have d4 := (b0.alloc (.cells (smA (0, 0)) 30)).cell 4
  have z1 : ((w.alloc (.cells #[str pp, .int .i64 kk, .int .i64 md, .int .i64 tm, str dd] 34)).alloc (.cells (smA (0, 0)) 30)).heap.size = w.heap.size + 2 := by simp
  replace z1 := Lib.hid z1
  replace b1 := Lib.hid b1
  clear b0 g0
  go_enter Try.func17, Try.ntmps17
  go_wp2_with (first
    | (refine wpList_string_bytes rfl (.tmp 4) 9 63 5 rfl Try.underlying9 Try.underlying63 Try.underlying5 dd rfl (by unfold maxLen; omega) ?_; intro c7 w4 hwb hc7 hm7 g4; have G4 := Lib.hid (Gr.trans g1.out g4); have b4 := Lib.hid (blk_more b1.out g4); have rS0 := hwb.rb; simp only [World.size_alloc] at rS0; have rS := Lib.hid rS0; clear rS0; replace hc7 := Lib.hid hc7; clear g4 hwb hm7 d4 z1 b1 g1)
    | (go_at_call 34; refine (hof.out _ _ _ hc7.out rS.out).mono ?_; rintro e w5 ⟨rfl, g5⟩; have G5 := Lib.hid (Gr.trans G4.out g5); have b5 := Lib.hid (blk_more b4.out g5); have s5 := b5.out.lt; clear g5 hof rS G4 b4)
    | ((with_reducible refine wpList_isStore 30 (.tmp 2) (.tmp 6) rfl ?_); refine wpList_store_blk rfl 30 (.tmp 2) (.tmp 6) rfl (w.heap.size + 1) (smA (sx, sy)) rfl rfl 30 (smA (0, 0)) b5.out (sumInfo _ _) rfl (by simp [Value.oneCell']) ?_; intro w8 n8' k8 z8; have g8 := Lib.hid (Below.trans G5.out (Below.mono (Kb.below k8 (Nat.le_of_lt s5)) (Nat.le_succ _))); replace n8' := Lib.hid n8'; clear k8 z8 G5 b5))
  exact bodyPost_ret (results_cell_row Try.results17 _ _ (w.heap.size + 1) 30 _ (0, 0) _ rfl n8'.out Try.underlying30 rfl (sumInfo _ _)) rfl ⟨rfl, g8.out⟩
/-- The node at a path, the root too. -/
def root : Nd := ⟨[], 1, 0, 0, []⟩
def atP (t : List Nd) (p : List UInt8) : Option Nd := if p = [] then some root else find t p
set_option maxRecDepth 100000 in
set_option maxHeartbeats 2000000 in
theorem at_any (A : Option Addr) (c : Nat) (l : List Nd) (p : List UInt8) (w : World) (h : NR w w.heap.size A l) (hl : l.length ≤ 1000000) :
    Calls Try.prog 22 #[.slice A l.length c, str p] w fun e w' => e = .returned (findV (atP l p)) ∧ Gr w w' := by
  obtain ⟨r, hr⟩ : ∃ r, atP l p = r := ⟨_, rfl⟩
  rw [hr]
  have b0 := Blk.new w 34 (ndA noNd)
  have g0 := (Gr.refl w).alloc (.cells (ndA noNd) 34)
  have s0 := b0.lt
  replace b0 := Lib.hid b0
  by_cases hp : p = []
  · obtain rfl : r = some root := by rw [← hr, hp]; rfl
    subst hp
    replace g0 := Lib.hid g0
    clear h hr
    go_enter Try.func22, Try.ntmps22
    go_wp2_with (first
      | ((with_reducible refine wpList_isStore 34 (.tmp 4) (.tmp 8) rfl ?_); refine wpList_store_blk rfl 34 (.tmp 4) (.tmp 8) rfl w.heap.size (ndA root) rfl rfl 34 (ndA noNd) b0.out (nodeInfo _ _ _ _ _) rfl (by simp [Value.oneCell']) ?_; intro w8 n8' k8 z8; have g8 := Lib.hid (Below.trans g0.out (Kb.below k8 (Nat.le_of_lt s0))); replace n8' := Lib.hid n8'; clear k8 z8 g0 b0))
    exact bodyPost_ret (results_cell_one Try.results22 _ _ w.heap.size 34 _ (0, 0) _ rfl n8'.out Try.underlying34 rfl (nodeInfo _ _ _ _ _)) rfl ⟨rfl, g8.out⟩
  · have hpb : (p == []) = false := by simpa using hp
    obtain rfl : find l p = r := by rw [← hr]; exact (if_neg hp).symm
    have hfi := find_any A c l p (w.alloc (.cells (ndA noNd) 34)) (h.on g0) hl
    obtain ⟨F, hF⟩ : ∃ F, find l p = F := ⟨_, rfl⟩
    rw [hF] at hfi ⊢
    replace hfi := Lib.hid hfi
    replace g0 := Lib.hid g0
    clear h hr hp hF
    obtain ⟨x, o, hx⟩ : ∃ (x : Nd) (o : Bool), findV F = .tuple #[nV x, .bool o] := by
      cases F with
      | none => exact ⟨_, _, rfl⟩
      | some n => exact ⟨_, _, rfl⟩
    rw [hx] at hfi ⊢
    clear hx
    go_enter Try.func22, Try.ntmps22
    go_wp2_with (first
      | (go_at_call 39; refine hfi.out.mono ?_; rintro e w5 ⟨rfl, g5⟩; have G5 := Lib.hid (Gr.trans g0.out g5); have b5 := Lib.hid (blk_more b0.out g5); have s5 := b5.out.lt; clear g5 hfi g0 b0 s0)
      | ((with_reducible refine wpList_isStore 34 (.tmp 4) (.tmp 12) rfl ?_); refine wpList_store_blk rfl 34 (.tmp 4) (.tmp 12) rfl w.heap.size (ndA x) rfl rfl 34 (ndA noNd) b5.out (nodeInfo _ _ _ _ _) rfl (by simp [Value.oneCell']) ?_; intro w8 n8' k8 z8; have g8 := Lib.hid (Below.trans G5.out (Kb.below k8 (Nat.le_of_lt s5))); replace n8' := Lib.hid n8'; clear k8 z8 G5 b5))
    exact bodyPost_ret (results_cell_one Try.results22 _ _ w.heap.size 34 _ (0, 0) _ rfl n8'.out Try.underlying34 rfl (nodeInfo _ _ _ _ _)) rfl ⟨rfl, g8.out⟩
end Tr
end Go.Proofs.Yteadcblmomngpaa
