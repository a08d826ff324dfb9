/- The walk of RollWindows: it returns true and writes nothing that was there. No condition. -/
import Derived.Test.YtadghiefddjbbaaRollRef
import Derived.Test.YtadghiefddjbbaaMemB
set_option linter.unusedVariables false
set_option linter.unusedSimpArgs false
namespace Go.Proofs.Ytadghiefddjbbaa
open Go Go.RowKit Go.Shelf W
attribute [local go_sem] Oper.semAt_some
namespace Roll
theorem blk_more {w w' : World} {g : Nat} {t : TypeId} {cs : Array Value} (h : Blk w g t cs) (hg : Gr w w') : Blk w' g t cs := h.below hg h.lt
theorem wins_length (bs : List UInt8) (n : Int) : (wins bs n).length = if 1 ≤ n ∧ n ≤ bs.length then bs.length - n.toNat + 1 else 0 := by
  unfold wins
  split
  · rw [upto_length]
  · rfl
theorem wins_at (bs : List UInt8) (n : Int) (k : Nat) (hk : k < (wins bs n).length) : (wins bs n)[k]? = some (k, of ((bs.drop k).take n.toNat)) := by
  rw [wins_length] at hk
  unfold wins
  split at hk
  · rename_i h
    rw [if_pos h]
    unfold upto
    rw [List.getElem?_map, List.getElem?_range hk]
    rfl
  · omega
/-- What was told last is not the window there. -/
def Off (bs : List UInt8) (n : Int) (pre : List (Nat × UInt32)) : Prop := ∃ ini last, pre = ini ++ [last] ∧ last ≠ (ini.length, of ((bs.drop ini.length).take n.toNat))
theorem not_off {bs : List UInt8} {n : Int} {k : Nat} (hk : k ≤ (wins bs n).length) : ¬ Off bs n ((wins bs n).take k) := by
  rintro ⟨ini, last, e, h⟩
  have hl : ini.length + 1 = k := by
    have := congrArg List.length e
    rw [List.length_take, List.length_append] at this
    simp at this
    omega
  have h1 : ((wins bs n).take k)[ini.length]? = some last := by rw [e]; simp
  rw [List.getElem?_take, if_pos (by omega), wins_at bs n _ (by omega)] at h1
  exact h (Option.some.inj h1).symm

theorem seven (w W7 : World) (A : Option Addr) (len c : Nat) (n v : Int)
    (h : ((((((w.alloc (.cells #[.slice A len c] 22)).alloc (.cells #[.int .i64 n] 3)).alloc (.cells #[.bool false] 4)).alloc (.cells #[.slice A len c] 22)).alloc (.cells #[.int .i64 n] 3)).alloc (.cells #[.int .i64 v] 3)).alloc (.cells #[.int .i64 0] 3) = W7) :
    Blk W7 w.heap.size 22 #[.slice A len c] ∧ Blk W7 (w.heap.size + 1) 3 #[.int .i64 n] ∧ Blk W7 (w.heap.size + 2) 4 #[.bool false] ∧ Blk W7 (w.heap.size + 3) 22 #[.slice A len c] ∧
      Blk W7 (w.heap.size + 4) 3 #[.int .i64 n] ∧ Blk W7 (w.heap.size + 5) 3 #[.int .i64 v] ∧ Blk W7 (w.heap.size + 6) 3 #[.int .i64 0] ∧ W7.heap.size = w.heap.size + 7 ∧ Below w.heap.size w W7 := by
  subst h
  refine ⟨?_, ?_, ?_, ?_, ?_, ?_, ?_, by simp, (((((((Below.refl _ w).alloc (Nat.le_refl _) _).alloc (by simp) _).alloc (by simp; omega) _).alloc (by simp; omega) _).alloc (by simp; omega) _).alloc (by simp; omega) _).alloc (by simp <;> omega) _⟩
  · exact (((((((Blk.new w _ _).alloc _).alloc _).alloc _).alloc _).alloc _).alloc _)
  · have := Blk.new (w.alloc (.cells #[.slice A len c] 22)) 3 #[.int .i64 n]
    rw [World.size_alloc] at this
    exact ((((this.alloc _).alloc _).alloc _).alloc _).alloc _
  · have := Blk.new ((w.alloc (.cells #[.slice A len c] 22)).alloc (.cells #[.int .i64 n] 3)) 4 #[.bool false]
    rw [World.size_alloc, World.size_alloc] at this
    exact (((this.alloc _).alloc _).alloc _).alloc _
  · have := Blk.new (((w.alloc (.cells #[.slice A len c] 22)).alloc (.cells #[.int .i64 n] 3)).alloc (.cells #[.bool false] 4)) 22 #[.slice A len c]
    rw [World.size_alloc, World.size_alloc, World.size_alloc] at this
    exact ((this.alloc _).alloc _).alloc _
  · have := Blk.new ((((w.alloc (.cells #[.slice A len c] 22)).alloc (.cells #[.int .i64 n] 3)).alloc (.cells #[.bool false] 4)).alloc (.cells #[.slice A len c] 22)) 3 #[.int .i64 n]
    rw [World.size_alloc, World.size_alloc, World.size_alloc, World.size_alloc] at this
    exact (this.alloc _).alloc _
  · have := Blk.new (((((w.alloc (.cells #[.slice A len c] 22)).alloc (.cells #[.int .i64 n] 3)).alloc (.cells #[.bool false] 4)).alloc (.cells #[.slice A len c] 22)).alloc (.cells #[.int .i64 n] 3)) 3 #[.int .i64 v]
    rw [World.size_alloc, World.size_alloc, World.size_alloc, World.size_alloc, World.size_alloc] at this
    exact this.alloc _
  · have := Blk.new ((((((w.alloc (.cells #[.slice A len c] 22)).alloc (.cells #[.int .i64 n] 3)).alloc (.cells #[.bool false] 4)).alloc (.cells #[.slice A len c] 22)).alloc (.cells #[.int .i64 n] 3)).alloc (.cells #[.int .i64 v] 3)) 3 #[.int .i64 0]
    rw [World.size_alloc, World.size_alloc, World.size_alloc, World.size_alloc, World.size_alloc, World.size_alloc] at this
    exact this
abbrev Ls := List (Nat × UInt32)
def WI (w : World) (A : Option Addr) (c : Nat) (l : List UInt8) (n : Int) (y : UInt8) (pre : Ls) (W : World) : Prop :=
  (pre.length ≤ y.toNat ∧ Boxed W w.heap.size 22 (.slice A l.length c) ∧ Boxed W (w.heap.size + 1) 3 (.int .i64 n) ∧ Boxed W (w.heap.size + 2) 4 (.bool false) ∧
    Boxed W (w.heap.size + 5) 3 (.int .i64 (n8 y)) ∧ Boxed W (w.heap.size + 6) 3 (.int .i64 (pre.length : Int))) ∧ Below w.heap.size w W
def WX (w : World) (A : Option Addr) (c : Nat) (l : List UInt8) (n : Int) (y : UInt8) (j : Code) (pre : Ls) (W : World) : Prop :=
  ((j = .ret ∧ Off l n pre) ∨ (j = .exit 0 ∧ pre.length = y.toNat + 1 ∧ Boxed W (w.heap.size + 2) 4 (.bool false) ∧ Boxed W (w.heap.size + 6) 3 (.int .i64 (n8 y)))) ∧ Below w.heap.size w W
theorem wi_own (w : World) (A : Option Addr) (c : Nat) (l : List UInt8) (n : Int) (y : UInt8) (B : Nat) (hB : w.heap.size ≤ B) : OwnFrom B (WI w A c l n y) :=
  OwnFrom.and (Own.from (fun s X Y row hs hg hr => ⟨hs.1, boxed_own _ _ (fun (_ : Ls) => _) s X Y row hs.2.1 hg hr, boxed_own _ _ (fun (_ : Ls) => _) s X Y row hs.2.2.1 hg hr, boxed_own _ _ (fun (_ : Ls) => _) s X Y row hs.2.2.2.1 hg hr,
    boxed_own _ _ (fun (_ : Ls) => _) s X Y row hs.2.2.2.2.1 hg hr, boxed_own _ _ (fun (s : Ls) => .int .i64 (s.length : Int)) s X Y row hs.2.2.2.2.2 hg hr⟩) _) (ownFrom_below (Nat.le_refl _) hB)
theorem wx_own (w : World) (A : Option Addr) (c : Nat) (l : List UInt8) (n : Int) (y : UInt8) (B : Nat) (hB : w.heap.size ≤ B) (j : Code) : OwnFrom B (WX w A c l n y j) :=
  OwnFrom.and (Own.from (fun s X Y row hs hg hr => by
    rcases hs with h | ⟨h1, h2, h3, h4⟩
    · exact .inl h
    · exact .inr ⟨h1, h2, boxed_own _ _ (fun (_ : Ls) => _) s X Y row h3 hg hr, boxed_own _ _ (fun (_ : Ls) => _) s X Y row h4 hg hr⟩) _) (ownFrom_below (Nat.le_refl _) hB)

set_option maxRecDepth 100000 in
set_option maxHeartbeats 4000000 in
theorem rollWindows_walk (A : Option Addr) (c : Nat) (l : List UInt8) (n : Int) (y : UInt8) (w : World)
    (hc : l.length ≤ c) (hm : c ≤ maxLen) (hr : RB w w.heap.size A l) (hn : -9223372036854775808 ≤ n ∧ n ≤ 9223372036854775807) :
    Calls Try.prog 4 #[.slice A l.length c, .int .i64 n, .int .u8 (n8 y)] w (Ret (eqv (.bool true)) w) := by
  have hrh := Lib.hid hr
  clear hr
  have haw := Lib.hid (fun w => awake_any w)
  have hfn : ∀ (cap : Array Value) (w : World), (binOp .eql 32 (.func (.func 18) #[] cap) .nilFunc).run Try.prog w = .ok (.bool false) w := by
    intro cap w
    rfl
  refine (callsIn_wide (n := 7)).1 ?_
  by_cases h200 : l.length ≤ 200
  · have k200 : ¬ (200 : Int) < (l.length : Int) := by omega
    have s0 := n8_lt y
    have s1 := n8_pos y
    refine callsIn_of_wp_marks Try.func4 rfl trivial ?_ rfl
    simp only [Try.ntmps4, List.size_toArray, List.length_cons, List.length_nil, Nat.reduceAdd, Nat.reduceSub, Array.replicate_succ, Array.replicate_zero, List.push_toArray, List.append_toArray, List.nil_append, List.cons_append]
    obtain ⟨want, hwant⟩ : ∃ x : Nat, x = min (wins l n).length y.toNat := ⟨_, rfl⟩
    by_cases g : 1 ≤ n ∧ n ≤ l.length
    · obtain ⟨m, rfl⟩ : ∃ k : Nat, n = (k : Int) := ⟨n.toNat, by omega⟩
      obtain ⟨h1, h2⟩ := g
      by_cases hw : (l.length : Int) - (m : Int) + 1 ≤ n8 y
      · have hw2 : Hid ((l.length : Int) - (m : Int) + 1 = (want : Int)) := by
          refine Lib.hid ?_
          rw [hwant, wins_length, if_pos ⟨h1, h2⟩]
          rw [n8_def] at hw
          omega
        gi_wp2_with (refine ⟨trivial, ?_⟩; gi_at_call 12; refine (callsIn_wide.2 (windows_any _ _ _ _ _)).mono ?_; rintro e w' ⟨rfl, rfl⟩)
        obtain ⟨W7, hW7⟩ : ∃ W7, ((((((w.alloc (.cells #[.slice A l.length c] 22)).alloc (.cells #[.int .i64 (m : Int)] 3)).alloc (.cells #[.bool false] 4)).alloc (.cells #[.slice A l.length c] 22)).alloc (.cells #[.int .i64 (m : Int)] 3)).alloc (.cells #[.int .i64 (n8 y)] 3)).alloc (.cells #[.int .i64 0] 3) = W7 := ⟨_, rfl⟩
        obtain ⟨bb, bn, br, bB, bN, bs, bm, hsz, hB0⟩ := seven w W7 A l.length c (m : Int) (n8 y) hW7
        rw [hW7]
        clear hW7
        refine wpIn_rangeFunc_ownG rfl (by omega) (gf := 18) (lb := #[.pointer (some ⟨w.heap.size + 1 + 1 + 1 + 1, 0, none⟩), .pointer (some ⟨w.heap.size + 1 + 1 + 1, 0, none⟩)]) rfl trivial (enters_of Try.func18 (by kernel_rfl) rfl)
          (windows_stops 6 (by omega) (w.heap.size + 4) (w.heap.size + 3) (w.heap.size + 5) A c (m : Int) l (by omega) hc hm W7 (by omega) (by omega) (by omega) (bN.cell 0) (bB.cell 0) ((hrh.out.below hB0).more (by omega))) belowK_t (belowK_b (by omega)) (Below.refl _ _) (fun _ => rfl)
          (WI w A c l (m : Int) y) (WX w A c l (m : Int) y)
          (wi_own w A c l (m : Int) y _ (by omega)) (wx_own w A c l (m : Int) y _ (by omega))
          ⟨⟨by simp, bb, bn, br, bs, bm⟩, hB0⟩
          (fun x => { tmps := #[.slice A l.length c, .int .i64 ((m : Int)), .int .u8 (n8 y), .pointer (some ⟨w.heap.size, 0, none⟩), .pointer (some ⟨w.heap.size + 1, 0, none⟩), undef, .pointer (some ⟨w.heap.size + 1 + 1, 0, none⟩), .func (.func 18) #[] #[.pointer (some ⟨w.heap.size + 1 + 1 + 1 + 1, 0, none⟩), .pointer (some ⟨w.heap.size + 1 + 1 + 1, 0, none⟩)], .pointer (some ⟨w.heap.size + 1 + 1 + 1 + 1 + 1, 0, none⟩), .int .i64 ((l.length : Int) - (m : Int) + 1), .pointer (some ⟨w.heap.size + 1 + 1 + 1 + 1 + 1 + 1, 0, none⟩), .int .i64 ((x.1 : Int)), .int .u32 (n32 x.2), .slice A l.length c, .int .i64 ((l.length : Int)), .bool false, undef, .slice A l.length c, .int .i64 ((m : Int)), .func (.func 18) #[] #[.pointer (some ⟨w.heap.size + 1 + 1 + 1 + 1, 0, none⟩), .pointer (some ⟨w.heap.size + 1 + 1 + 1, 0, none⟩)], .func (.func 18) #[] #[.pointer (some ⟨w.heap.size + 1 + 1 + 1 + 1, 0, none⟩), .pointer (some ⟨w.heap.size + 1 + 1 + 1, 0, none⟩)], .bool false, .int .u8 (n8 y), .int .i64 (n8 y), .int .i64 ((m : Int)), .bool true, .bool true, .int .i64 (m : Int), .slice A l.length c, .int .i64 (l.length : Int), .bool true, .bool true, .slice A l.length c, .int .i64 (l.length : Int), .int .i64 (m : Int), .int .i64 ((l.length : Int) - (m : Int)), .int .i64 ((l.length : Int) - (m : Int) + 1), .int .i64 (n8 y), .int .i64 ((l.length : Int) - (m : Int) + 1), .func (.func 18) #[] #[.pointer (some ⟨w.heap.size + 1 + 1 + 1 + 1, 0, none⟩), .pointer (some ⟨w.heap.size + 1 + 1 + 1, 0, none⟩)], .int .i64 ((x.1 : Int)), .int .u32 (n32 x.2), undef, undef, undef, undef, undef, undef, undef, undef, undef, undef, undef, undef, undef, undef, undef, undef, undef, undef, undef, undef, undef, undef, undef, undef, undef, undef, undef, undef, undef, undef, undef, undef, undef, undef, undef, undef, undef, undef], defers := [] }) ?assign ?body ?done ?stop
        case assign =>
          intro lp x W K hK
          dsimp only [enc]
          gi_wp2
          exact hK
        case body =>
          rintro lp pre ⟨a, s⟩ W ⟨⟨hpl, bb, bn, br, bs, bm⟩, hB⟩ hlt
          have hlt2 : pre.length + m ≤ l.length := by rw [wins_length, if_pos ⟨h1, h2⟩] at hlt; omega
          have hlt3 : pre.length < l.length := by omega
          have c0 : W.cell? ⟨w.heap.size, 0, none⟩ = some (.slice A l.length c) := Blk.cell bb 0
          have c1 : W.cell? ⟨w.heap.size + 1, 0, none⟩ = some (.int .i64 (m : Int)) := Blk.cell bn 0
          have c2 : W.cell? ⟨w.heap.size + 1 + 1, 0, none⟩ = some (.bool false) := Blk.cell br 0
          have f2 : W.frozen? ⟨w.heap.size + 1 + 1, 0, none⟩ = false := Blk.frozen br 0
          have c5 : W.cell? ⟨w.heap.size + 1 + 1 + 1 + 1 + 1, 0, none⟩ = some (.int .i64 (n8 y)) := Blk.cell bs 0
          have c6 : W.cell? ⟨w.heap.size + 1 + 1 + 1 + 1 + 1 + 1, 0, none⟩ = some (.int .i64 (pre.length : Int)) := Blk.cell bm 0
          have f6 : W.frozen? ⟨w.heap.size + 1 + 1 + 1 + 1 + 1 + 1, 0, none⟩ = false := Blk.frozen bm 0
          have g1 : ¬ ((m : Int) < 1) := by omega
          by_cases hmost : pre.length = y.toNat
          · have e1 : ((pre.length : Int) == n8 y) = true := by rw [hmost, n8_def]; simp
            gi_wp2
            refine ⟨KeepsFrom.refl _ _, .inr ⟨rfl, by simp [hmost], br, ?_⟩, hB⟩
            rw [hmost] at bm
            exact bm
          · have e1 : ((pre.length : Int) == n8 y) = false := by rw [n8_def]; simp; omega
            by_cases hx : a = pre.length
            · subst hx
              have e2 : ((pre.length : Int) == (pre.length : Int)) = true := by simp
              have k1 : ¬ ((l.length : Int) - (pre.length : Int) < (m : Int)) := by omega
              have k2 : (pre.length : Int) ≤ (pre.length : Int) + (m : Int) := by omega
              have k3 : (pre.length : Int) + (m : Int) ≤ (c : Int) := by omega
              have k4 : ¬ c = pre.length := by omega
              have k5 : 0 ≤ (pre.length : Int) := by omega
              have hr1 : RB W w.heap.size (A.map fun x => x.add pre.length) ((l.drop pre.length).take m) := by
                have := ((hrh.out.below hB).drop (k := pre.length) (cap := c) (by omega) hc).take (k := m) (by simp; omega)
                rw [if_neg (by omega)] at this
                exact this
              have hbs := run_bytes_string (P := Try.prog) W 22 9 5 Try.underlying22 Try.underlying5 Try.underlying9 _ (A.map fun x => x.add pre.length) (c - pre.length) m ((l.drop pre.length).take m) (by simp; omega) hr1
              have hro := Lib.hid (refOf_any ((l.drop pre.length).take m) W (by simp; omega))
              clear hr1
              by_cases hs : s = of ((l.drop pre.length).take m)
              · have e3 : (s == of ((l.drop pre.length).take m)) = true := by rw [hs]; simp
                dsimp only
                gi_wp2_with (refine ⟨trivial, ?_⟩; gi_at_call 8; refine (CallsIn.inRound lp (callsIn_wide.2 hro.out)).mono ?_; rintro e w' ⟨rfl, rfl⟩)
                refine ⟨(KeepsOthers.setCell _ _ _).from _, (Below.refl _ W).setCell (p := ⟨w.heap.size + 1 + 1 + 1 + 1 + 1 + 1, 0, none⟩) (by simp <;> omega) _, ⟨by simp; omega, ?_, ?_, ?_, ?_, ?_⟩, hB.setCell (p := ⟨w.heap.size + 1 + 1 + 1 + 1 + 1 + 1, 0, none⟩) (by simp <;> omega) _⟩
                · exact Blk.far bb (by simp <;> omega) _
                · exact Blk.far bn (by simp <;> omega) _
                · exact Blk.far br (by simp <;> omega) _
                · exact Blk.far bs (by simp <;> omega) _
                · have := Blk.set_ bm 0 (.int .i64 ((pre.length : Int) + 1))
                  simpa [Boxed, Blk] using this
              · have e3 : (s != of ((l.drop pre.length).take m)) = true := by simpa using hs
                dsimp only
                gi_wp2_with (refine ⟨trivial, ?_⟩; gi_at_call 8; refine (CallsIn.inRound lp (callsIn_wide.2 hro.out)).mono ?_; rintro e w' ⟨rfl, rfl⟩)
                refine ⟨(KeepsOthers.setCell _ _ _).from _, .inl ⟨rfl, pre, _, rfl, ?_⟩, hB.setCell (p := ⟨w.heap.size + 1 + 1, 0, none⟩) (by simp <;> omega) _⟩
                intro h
                exact hs (congrArg Prod.snd h)
            · have e2 : ((a : Int) != (pre.length : Int)) = true := by simp; omega
              dsimp only
              gi_wp2
              refine ⟨trivial, ?_⟩
              gi_wp2
              refine ⟨(KeepsOthers.setCell _ _ _).from _, .inl ⟨rfl, pre, _, rfl, ?_⟩, hB.setCell (p := ⟨w.heap.size + 1 + 1, 0, none⟩) (by simp <;> omega) _⟩
              intro h
              exact hx (congrArg Prod.fst h)
        case done =>
          rintro D ys W hD rfl ⟨⟨hpl, bb, bn, br, bs, bm⟩, hB⟩ hK
          have hKlt : D < W.heap.size := (Array.getElem?_eq_some_iff.1 hK).1
          have hKh := Lib.hid hK
          have brh : Hid (Blk W (w.heap.size + 1 + 1) 4 #[.bool false]) := Lib.hid br
          have bmh : Hid (Blk W (w.heap.size + 1 + 1 + 1 + 1 + 1 + 1) 3 #[.int .i64 ((wins l (m : Int)).length : Int)]) := Lib.hid bm
          have eqw : (((wins l (m : Int)).length : Int) == ((l.length : Int) - (m : Int) + 1)) = true := by
            have h9 := hw2.out
            have h8 := n8_def y
            refine beq_iff_eq.2 ?_
            omega
          clear hK br bm bb bn bs
          have hg3 := Lib.hid hB
          clear hB
          gi_wp2_with (refine ⟨trivial, ?_⟩; gi_at_call 6; refine (callsIn_wide.2 (haw.out _)).mono ?_; rintro e w' ⟨v, rfl, hv, hg⟩; obtain rfl : v = .bool true := hv; have hKg := Lib.hid ((hg.block D hKlt).trans hKh.out); have hgh := Lib.hid hg; have cr := (blk_more brh.out hg).cell 0; have fr := (blk_more brh.out hg).frozen 0; have cm := (blk_more bmh.out hg).cell 0; clear hg)
          have brw := blk_more brh.out hgh.out
          have hK' := (KeepsOthers.setCell w' ⟨w.heap.size + 1 + 1, 0, none⟩ (.bool true)).same D _ hKg.out rfl
          refine ⟨by simp, .inl ⟨_, _, rfl, run_takeDeferred hK', ?_⟩⟩
          have r1 := cell_kept ((Blk.set_ brw 0 (.bool true)).cell 0) (grownBy_putObj' _ D (.deferred none)) (fun r e => by cases e; exact ⟨_, hK', rfl⟩)
          refine ⟨.bool true, ?_, _, rfl, rfl, ((hg3.out.trans (hgh.out.mono (hg3.out.size))).setCell (p := ⟨w.heap.size + 1 + 1, 0, none⟩) (by simp <;> omega) _).trans (belowK_b (w := w) (Nat.le_refl _) _ D _ _ (by omega) hK' rfl rfl)⟩
          simp [results, Try.f4, go_sem, r1]
        case stop =>
          rintro D j pre W hD ⟨k, hk, rfl⟩ ⟨hx, hB⟩ hK
          obtain ⟨rfl, ho⟩ | ⟨rfl, hl, br, bm⟩ := hx
          · exact absurd ho (not_off hk)
          have hKlt : D < W.heap.size := (Array.getElem?_eq_some_iff.1 hK).1
          have hKh := Lib.hid hK
          have brh : Hid (Blk W (w.heap.size + 1 + 1) 4 #[.bool false]) := Lib.hid br
          have bmh : Hid (Blk W (w.heap.size + 1 + 1 + 1 + 1 + 1 + 1) 3 #[.int .i64 (n8 y)]) := Lib.hid bm
          have eqw : (n8 y == ((l.length : Int) - (m : Int) + 1)) = true := by
            have h9 := hw2.out
            have h8 := n8_def y
            rw [List.length_take] at hl
            refine beq_iff_eq.2 ?_
            omega
          clear hK br bm
          have hg3 := Lib.hid hB
          clear hB
          gi_wp2_with (refine ⟨trivial, ?_⟩; gi_at_call 6; refine (callsIn_wide.2 (haw.out _)).mono ?_; rintro e w' ⟨v, rfl, hv, hg⟩; obtain rfl : v = .bool true := hv; have hKg := Lib.hid ((hg.block D hKlt).trans hKh.out); have hgh := Lib.hid hg; have cr := (blk_more brh.out hg).cell 0; have fr := (blk_more brh.out hg).frozen 0; have cm := (blk_more bmh.out hg).cell 0; clear hg)
          have brw := blk_more brh.out hgh.out
          have hK' := (KeepsOthers.setCell w' ⟨w.heap.size + 1 + 1, 0, none⟩ (.bool true)).same D _ hKg.out rfl
          refine ⟨by simp, .inl ⟨_, _, rfl, run_takeDeferred hK', ?_⟩⟩
          have r1 := cell_kept ((Blk.set_ brw 0 (.bool true)).cell 0) (grownBy_putObj' _ D (.deferred none)) (fun r e => by cases e; exact ⟨_, hK', rfl⟩)
          refine ⟨.bool true, ?_, _, rfl, rfl, ((hg3.out.trans (hgh.out.mono (hg3.out.size))).setCell (p := ⟨w.heap.size + 1 + 1, 0, none⟩) (by simp <;> omega) _).trans (belowK_b (w := w) (Nat.le_refl _) _ D _ _ (by omega) hK' rfl rfl)⟩
          simp [results, Try.f4, go_sem, r1]
      · have hw2 : Hid (n8 y = (want : Int)) := by
          refine Lib.hid ?_
          rw [hwant, wins_length, if_pos ⟨h1, h2⟩]
          rw [n8_def] at hw ⊢
          omega
        gi_wp2_with (refine ⟨trivial, ?_⟩; gi_at_call 12; refine (callsIn_wide.2 (windows_any _ _ _ _ _)).mono ?_; rintro e w' ⟨rfl, rfl⟩)
        obtain ⟨W7, hW7⟩ : ∃ W7, ((((((w.alloc (.cells #[.slice A l.length c] 22)).alloc (.cells #[.int .i64 (m : Int)] 3)).alloc (.cells #[.bool false] 4)).alloc (.cells #[.slice A l.length c] 22)).alloc (.cells #[.int .i64 (m : Int)] 3)).alloc (.cells #[.int .i64 (n8 y)] 3)).alloc (.cells #[.int .i64 0] 3) = W7 := ⟨_, rfl⟩
        obtain ⟨bb, bn, br, bB, bN, bs, bm, hsz, hB0⟩ := seven w W7 A l.length c (m : Int) (n8 y) hW7
        rw [hW7]
        clear hW7
        refine wpIn_rangeFunc_ownG rfl (by omega) (gf := 18) (lb := #[.pointer (some ⟨w.heap.size + 1 + 1 + 1 + 1, 0, none⟩), .pointer (some ⟨w.heap.size + 1 + 1 + 1, 0, none⟩)]) rfl trivial (enters_of Try.func18 (by kernel_rfl) rfl)
          (windows_stops 6 (by omega) (w.heap.size + 4) (w.heap.size + 3) (w.heap.size + 5) A c (m : Int) l (by omega) hc hm W7 (by omega) (by omega) (by omega) (bN.cell 0) (bB.cell 0) ((hrh.out.below hB0).more (by omega))) belowK_t (belowK_b (by omega)) (Below.refl _ _) (fun _ => rfl)
          (WI w A c l (m : Int) y) (WX w A c l (m : Int) y)
          (wi_own w A c l (m : Int) y _ (by omega)) (wx_own w A c l (m : Int) y _ (by omega))
          ⟨⟨by simp, bb, bn, br, bs, bm⟩, hB0⟩
          (fun x => { tmps := #[.slice A l.length c, .int .i64 ((m : Int)), .int .u8 (n8 y), .pointer (some ⟨w.heap.size, 0, none⟩), .pointer (some ⟨w.heap.size + 1, 0, none⟩), undef, .pointer (some ⟨w.heap.size + 1 + 1, 0, none⟩), .func (.func 18) #[] #[.pointer (some ⟨w.heap.size + 1 + 1 + 1 + 1, 0, none⟩), .pointer (some ⟨w.heap.size + 1 + 1 + 1, 0, none⟩)], .pointer (some ⟨w.heap.size + 1 + 1 + 1 + 1 + 1, 0, none⟩), .int .i64 (n8 y), .pointer (some ⟨w.heap.size + 1 + 1 + 1 + 1 + 1 + 1, 0, none⟩), .int .i64 ((x.1 : Int)), .int .u32 (n32 x.2), .slice A l.length c, .int .i64 ((l.length : Int)), .bool false, undef, .slice A l.length c, .int .i64 ((m : Int)), .func (.func 18) #[] #[.pointer (some ⟨w.heap.size + 1 + 1 + 1 + 1, 0, none⟩), .pointer (some ⟨w.heap.size + 1 + 1 + 1, 0, none⟩)], .func (.func 18) #[] #[.pointer (some ⟨w.heap.size + 1 + 1 + 1 + 1, 0, none⟩), .pointer (some ⟨w.heap.size + 1 + 1 + 1, 0, none⟩)], .bool false, .int .u8 (n8 y), .int .i64 (n8 y), .int .i64 ((m : Int)), .bool true, .bool true, .int .i64 (m : Int), .slice A l.length c, .int .i64 (l.length : Int), .bool true, .bool true, .slice A l.length c, .int .i64 (l.length : Int), .int .i64 (m : Int), .int .i64 ((l.length : Int) - (m : Int)), .int .i64 ((l.length : Int) - (m : Int) + 1), .int .i64 (n8 y), .int .i64 (n8 y), .func (.func 18) #[] #[.pointer (some ⟨w.heap.size + 1 + 1 + 1 + 1, 0, none⟩), .pointer (some ⟨w.heap.size + 1 + 1 + 1, 0, none⟩)], .int .i64 ((x.1 : Int)), .int .u32 (n32 x.2), undef, undef, undef, undef, undef, undef, undef, undef, undef, undef, undef, undef, undef, undef, undef, undef, undef, undef, undef, undef, undef, undef, undef, undef, undef, undef, undef, undef, undef, undef, undef, undef, undef, undef, undef, undef, undef, undef], defers := [] }) ?assign ?body ?done ?stop
        case assign =>
          intro lp x W K hK
          dsimp only [enc]
          gi_wp2
          exact hK
        case body =>
          rintro lp pre ⟨a, s⟩ W ⟨⟨hpl, bb, bn, br, bs, bm⟩, hB⟩ hlt
          have hlt2 : pre.length + m ≤ l.length := by rw [wins_length, if_pos ⟨h1, h2⟩] at hlt; omega
          have hlt3 : pre.length < l.length := by omega
          have c0 : W.cell? ⟨w.heap.size, 0, none⟩ = some (.slice A l.length c) := Blk.cell bb 0
          have c1 : W.cell? ⟨w.heap.size + 1, 0, none⟩ = some (.int .i64 (m : Int)) := Blk.cell bn 0
          have c2 : W.cell? ⟨w.heap.size + 1 + 1, 0, none⟩ = some (.bool false) := Blk.cell br 0
          have f2 : W.frozen? ⟨w.heap.size + 1 + 1, 0, none⟩ = false := Blk.frozen br 0
          have c5 : W.cell? ⟨w.heap.size + 1 + 1 + 1 + 1 + 1, 0, none⟩ = some (.int .i64 (n8 y)) := Blk.cell bs 0
          have c6 : W.cell? ⟨w.heap.size + 1 + 1 + 1 + 1 + 1 + 1, 0, none⟩ = some (.int .i64 (pre.length : Int)) := Blk.cell bm 0
          have f6 : W.frozen? ⟨w.heap.size + 1 + 1 + 1 + 1 + 1 + 1, 0, none⟩ = false := Blk.frozen bm 0
          have g1 : ¬ ((m : Int) < 1) := by omega
          by_cases hmost : pre.length = y.toNat
          · have e1 : ((pre.length : Int) == n8 y) = true := by rw [hmost, n8_def]; simp
            gi_wp2
            refine ⟨KeepsFrom.refl _ _, .inr ⟨rfl, by simp [hmost], br, ?_⟩, hB⟩
            rw [hmost] at bm
            exact bm
          · have e1 : ((pre.length : Int) == n8 y) = false := by rw [n8_def]; simp; omega
            by_cases hx : a = pre.length
            · subst hx
              have e2 : ((pre.length : Int) == (pre.length : Int)) = true := by simp
              have k1 : ¬ ((l.length : Int) - (pre.length : Int) < (m : Int)) := by omega
              have k2 : (pre.length : Int) ≤ (pre.length : Int) + (m : Int) := by omega
              have k3 : (pre.length : Int) + (m : Int) ≤ (c : Int) := by omega
              have k4 : ¬ c = pre.length := by omega
              have k5 : 0 ≤ (pre.length : Int) := by omega
              have hr1 : RB W w.heap.size (A.map fun x => x.add pre.length) ((l.drop pre.length).take m) := by
                have := ((hrh.out.below hB).drop (k := pre.length) (cap := c) (by omega) hc).take (k := m) (by simp; omega)
                rw [if_neg (by omega)] at this
                exact this
              have hbs := run_bytes_string (P := Try.prog) W 22 9 5 Try.underlying22 Try.underlying5 Try.underlying9 _ (A.map fun x => x.add pre.length) (c - pre.length) m ((l.drop pre.length).take m) (by simp; omega) hr1
              have hro := Lib.hid (refOf_any ((l.drop pre.length).take m) W (by simp; omega))
              clear hr1
              by_cases hs : s = of ((l.drop pre.length).take m)
              · have e3 : (s == of ((l.drop pre.length).take m)) = true := by rw [hs]; simp
                dsimp only
                gi_wp2_with (refine ⟨trivial, ?_⟩; gi_at_call 8; refine (CallsIn.inRound lp (callsIn_wide.2 hro.out)).mono ?_; rintro e w' ⟨rfl, rfl⟩)
                refine ⟨(KeepsOthers.setCell _ _ _).from _, (Below.refl _ W).setCell (p := ⟨w.heap.size + 1 + 1 + 1 + 1 + 1 + 1, 0, none⟩) (by simp <;> omega) _, ⟨by simp; omega, ?_, ?_, ?_, ?_, ?_⟩, hB.setCell (p := ⟨w.heap.size + 1 + 1 + 1 + 1 + 1 + 1, 0, none⟩) (by simp <;> omega) _⟩
                · exact Blk.far bb (by simp <;> omega) _
                · exact Blk.far bn (by simp <;> omega) _
                · exact Blk.far br (by simp <;> omega) _
                · exact Blk.far bs (by simp <;> omega) _
                · have := Blk.set_ bm 0 (.int .i64 ((pre.length : Int) + 1))
                  simpa [Boxed, Blk] using this
              · have e3 : (s != of ((l.drop pre.length).take m)) = true := by simpa using hs
                dsimp only
                gi_wp2_with (refine ⟨trivial, ?_⟩; gi_at_call 8; refine (CallsIn.inRound lp (callsIn_wide.2 hro.out)).mono ?_; rintro e w' ⟨rfl, rfl⟩)
                refine ⟨(KeepsOthers.setCell _ _ _).from _, .inl ⟨rfl, pre, _, rfl, ?_⟩, hB.setCell (p := ⟨w.heap.size + 1 + 1, 0, none⟩) (by simp <;> omega) _⟩
                intro h
                exact hs (congrArg Prod.snd h)
            · have e2 : ((a : Int) != (pre.length : Int)) = true := by simp; omega
              dsimp only
              gi_wp2
              refine ⟨trivial, ?_⟩
              gi_wp2
              refine ⟨(KeepsOthers.setCell _ _ _).from _, .inl ⟨rfl, pre, _, rfl, ?_⟩, hB.setCell (p := ⟨w.heap.size + 1 + 1, 0, none⟩) (by simp <;> omega) _⟩
              intro h
              exact hx (congrArg Prod.fst h)
        case done =>
          rintro D ys W hD rfl ⟨⟨hpl, bb, bn, br, bs, bm⟩, hB⟩ hK
          have hKlt : D < W.heap.size := (Array.getElem?_eq_some_iff.1 hK).1
          have hKh := Lib.hid hK
          have brh : Hid (Blk W (w.heap.size + 1 + 1) 4 #[.bool false]) := Lib.hid br
          have bmh : Hid (Blk W (w.heap.size + 1 + 1 + 1 + 1 + 1 + 1) 3 #[.int .i64 ((wins l (m : Int)).length : Int)]) := Lib.hid bm
          have eqw : (((wins l (m : Int)).length : Int) == n8 y) = true := by
            have h9 := hw2.out
            have h8 := n8_def y
            refine beq_iff_eq.2 ?_
            omega
          clear hK br bm bb bn bs
          have hg3 := Lib.hid hB
          clear hB
          gi_wp2_with (refine ⟨trivial, ?_⟩; gi_at_call 6; refine (callsIn_wide.2 (haw.out _)).mono ?_; rintro e w' ⟨v, rfl, hv, hg⟩; obtain rfl : v = .bool true := hv; have hKg := Lib.hid ((hg.block D hKlt).trans hKh.out); have hgh := Lib.hid hg; have cr := (blk_more brh.out hg).cell 0; have fr := (blk_more brh.out hg).frozen 0; have cm := (blk_more bmh.out hg).cell 0; clear hg)
          have brw := blk_more brh.out hgh.out
          have hK' := (KeepsOthers.setCell w' ⟨w.heap.size + 1 + 1, 0, none⟩ (.bool true)).same D _ hKg.out rfl
          refine ⟨by simp, .inl ⟨_, _, rfl, run_takeDeferred hK', ?_⟩⟩
          have r1 := cell_kept ((Blk.set_ brw 0 (.bool true)).cell 0) (grownBy_putObj' _ D (.deferred none)) (fun r e => by cases e; exact ⟨_, hK', rfl⟩)
          refine ⟨.bool true, ?_, _, rfl, rfl, ((hg3.out.trans (hgh.out.mono (hg3.out.size))).setCell (p := ⟨w.heap.size + 1 + 1, 0, none⟩) (by simp <;> omega) _).trans (belowK_b (w := w) (Nat.le_refl _) _ D _ _ (by omega) hK' rfl rfl)⟩
          simp [results, Try.f4, go_sem, r1]
        case stop =>
          rintro D j pre W hD ⟨k, hk, rfl⟩ ⟨hx, hB⟩ hK
          obtain ⟨rfl, ho⟩ | ⟨rfl, hl, br, bm⟩ := hx
          · exact absurd ho (not_off hk)
          have hKlt : D < W.heap.size := (Array.getElem?_eq_some_iff.1 hK).1
          have hKh := Lib.hid hK
          have brh : Hid (Blk W (w.heap.size + 1 + 1) 4 #[.bool false]) := Lib.hid br
          have bmh : Hid (Blk W (w.heap.size + 1 + 1 + 1 + 1 + 1 + 1) 3 #[.int .i64 (n8 y)]) := Lib.hid bm
          have eqw : (n8 y == n8 y) = true := by
            have h9 := hw2.out
            have h8 := n8_def y
            rw [List.length_take] at hl
            refine beq_iff_eq.2 ?_
            omega
          clear hK br bm
          have hg3 := Lib.hid hB
          clear hB
          gi_wp2_with (refine ⟨trivial, ?_⟩; gi_at_call 6; refine (callsIn_wide.2 (haw.out _)).mono ?_; rintro e w' ⟨v, rfl, hv, hg⟩; obtain rfl : v = .bool true := hv; have hKg := Lib.hid ((hg.block D hKlt).trans hKh.out); have hgh := Lib.hid hg; have cr := (blk_more brh.out hg).cell 0; have fr := (blk_more brh.out hg).frozen 0; have cm := (blk_more bmh.out hg).cell 0; clear hg)
          have brw := blk_more brh.out hgh.out
          have hK' := (KeepsOthers.setCell w' ⟨w.heap.size + 1 + 1, 0, none⟩ (.bool true)).same D _ hKg.out rfl
          refine ⟨by simp, .inl ⟨_, _, rfl, run_takeDeferred hK', ?_⟩⟩
          have r1 := cell_kept ((Blk.set_ brw 0 (.bool true)).cell 0) (grownBy_putObj' _ D (.deferred none)) (fun r e => by cases e; exact ⟨_, hK', rfl⟩)
          refine ⟨.bool true, ?_, _, rfl, rfl, ((hg3.out.trans (hgh.out.mono (hg3.out.size))).setCell (p := ⟨w.heap.size + 1 + 1, 0, none⟩) (by simp <;> omega) _).trans (belowK_b (w := w) (Nat.le_refl _) _ D _ _ (by omega) hK' rfl rfl)⟩
          simp [results, Try.f4, go_sem, r1]
    · have hw2 : Hid ((0 : Int) = (want : Int)) := by
        refine Lib.hid ?_
        rw [hwant, wins_length, if_neg g]
        try simp
      by_cases h1 : n < 1
      · gi_wp2_with (refine ⟨trivial, ?_⟩; gi_at_call 12; refine (callsIn_wide.2 (windows_any _ _ _ _ _)).mono ?_; rintro e w' ⟨rfl, rfl⟩)
        obtain ⟨W7, hW7⟩ : ∃ W7, ((((((w.alloc (.cells #[.slice A l.length c] 22)).alloc (.cells #[.int .i64 n] 3)).alloc (.cells #[.bool false] 4)).alloc (.cells #[.slice A l.length c] 22)).alloc (.cells #[.int .i64 n] 3)).alloc (.cells #[.int .i64 (n8 y)] 3)).alloc (.cells #[.int .i64 0] 3) = W7 := ⟨_, rfl⟩
        obtain ⟨bb, bn, br, bB, bN, bs, bm, hsz, hB0⟩ := seven w W7 A l.length c n (n8 y) hW7
        rw [hW7]
        clear hW7
        refine wpIn_rangeFunc_ownG rfl (by omega) (gf := 18) (lb := #[.pointer (some ⟨w.heap.size + 1 + 1 + 1 + 1, 0, none⟩), .pointer (some ⟨w.heap.size + 1 + 1 + 1, 0, none⟩)]) rfl trivial (enters_of Try.func18 (by kernel_rfl) rfl)
          (windows_stops 6 (by omega) (w.heap.size + 4) (w.heap.size + 3) (w.heap.size + 5) A c n l (by omega) hc hm W7 (by omega) (by omega) (by omega) (bN.cell 0) (bB.cell 0) ((hrh.out.below hB0).more (by omega))) belowK_t (belowK_b (by omega)) (Below.refl _ _) (fun _ => rfl)
          (WI w A c l n y) (WX w A c l n y)
          (wi_own w A c l n y _ (by omega)) (wx_own w A c l n y _ (by omega))
          ⟨⟨by simp, bb, bn, br, bs, bm⟩, hB0⟩
          (fun x => { tmps := #[.slice A l.length c, .int .i64 (n), .int .u8 (n8 y), .pointer (some ⟨w.heap.size, 0, none⟩), .pointer (some ⟨w.heap.size + 1, 0, none⟩), undef, .pointer (some ⟨w.heap.size + 1 + 1, 0, none⟩), .func (.func 18) #[] #[.pointer (some ⟨w.heap.size + 1 + 1 + 1 + 1, 0, none⟩), .pointer (some ⟨w.heap.size + 1 + 1 + 1, 0, none⟩)], .pointer (some ⟨w.heap.size + 1 + 1 + 1 + 1 + 1, 0, none⟩), .int .i64 (0), .pointer (some ⟨w.heap.size + 1 + 1 + 1 + 1 + 1 + 1, 0, none⟩), .int .i64 ((x.1 : Int)), .int .u32 (n32 x.2), .slice A l.length c, .int .i64 ((l.length : Int)), .bool false, undef, .slice A l.length c, .int .i64 (n), .func (.func 18) #[] #[.pointer (some ⟨w.heap.size + 1 + 1 + 1 + 1, 0, none⟩), .pointer (some ⟨w.heap.size + 1 + 1 + 1, 0, none⟩)], .func (.func 18) #[] #[.pointer (some ⟨w.heap.size + 1 + 1 + 1 + 1, 0, none⟩), .pointer (some ⟨w.heap.size + 1 + 1 + 1, 0, none⟩)], .bool false, .int .u8 (n8 y), .int .i64 (n8 y), .int .i64 (n), .bool false, .bool false, undef, undef, undef, undef, .bool false, undef, undef, undef, undef, undef, undef, undef, .func (.func 18) #[] #[.pointer (some ⟨w.heap.size + 1 + 1 + 1 + 1, 0, none⟩), .pointer (some ⟨w.heap.size + 1 + 1 + 1, 0, none⟩)], .int .i64 ((x.1 : Int)), .int .u32 (n32 x.2), undef, undef, undef, undef, undef, undef, undef, undef, undef, undef, undef, undef, undef, undef, undef, undef, undef, undef, undef, undef, undef, undef, undef, undef, undef, undef, undef, undef, undef, undef, undef, undef, undef, undef, undef, undef, undef, undef], defers := [] }) ?assign ?body ?done ?stop
        case assign =>
          intro lp x W K hK
          dsimp only [enc]
          gi_wp2
          exact hK
        case body =>
          intro lp pre x W hI hlt
          exact absurd hlt (by rw [wins_length, if_neg g]; omega)
        case done =>
          rintro D ys W hD rfl ⟨⟨hpl, bb, bn, br, bs, bm⟩, hB⟩ hK
          have hKlt : D < W.heap.size := (Array.getElem?_eq_some_iff.1 hK).1
          have hKh := Lib.hid hK
          have brh : Hid (Blk W (w.heap.size + 1 + 1) 4 #[.bool false]) := Lib.hid br
          have bmh : Hid (Blk W (w.heap.size + 1 + 1 + 1 + 1 + 1 + 1) 3 #[.int .i64 ((wins l n).length : Int)]) := Lib.hid bm
          have eqw : (((wins l n).length : Int) == (0 : Int)) = true := by
            have h9 := hw2.out
            have h8 := n8_def y
            refine beq_iff_eq.2 ?_
            omega
          clear hK br bm bb bn bs
          have hg3 := Lib.hid hB
          clear hB
          gi_wp2_with (refine ⟨trivial, ?_⟩; gi_at_call 6; refine (callsIn_wide.2 (haw.out _)).mono ?_; rintro e w' ⟨v, rfl, hv, hg⟩; obtain rfl : v = .bool true := hv; have hKg := Lib.hid ((hg.block D hKlt).trans hKh.out); have hgh := Lib.hid hg; have cr := (blk_more brh.out hg).cell 0; have fr := (blk_more brh.out hg).frozen 0; have cm := (blk_more bmh.out hg).cell 0; clear hg)
          have brw := blk_more brh.out hgh.out
          have hK' := (KeepsOthers.setCell w' ⟨w.heap.size + 1 + 1, 0, none⟩ (.bool true)).same D _ hKg.out rfl
          refine ⟨by simp, .inl ⟨_, _, rfl, run_takeDeferred hK', ?_⟩⟩
          have r1 := cell_kept ((Blk.set_ brw 0 (.bool true)).cell 0) (grownBy_putObj' _ D (.deferred none)) (fun r e => by cases e; exact ⟨_, hK', rfl⟩)
          refine ⟨.bool true, ?_, _, rfl, rfl, ((hg3.out.trans (hgh.out.mono (hg3.out.size))).setCell (p := ⟨w.heap.size + 1 + 1, 0, none⟩) (by simp <;> omega) _).trans (belowK_b (w := w) (Nat.le_refl _) _ D _ _ (by omega) hK' rfl rfl)⟩
          simp [results, Try.f4, go_sem, r1]
        case stop =>
          rintro D j pre W hD ⟨k, hk, rfl⟩ ⟨hx, hB⟩ hK
          obtain ⟨rfl, ho⟩ | ⟨rfl, hl, br, bm⟩ := hx
          · exact absurd ho (not_off hk)
          have hKlt : D < W.heap.size := (Array.getElem?_eq_some_iff.1 hK).1
          have hKh := Lib.hid hK
          have brh : Hid (Blk W (w.heap.size + 1 + 1) 4 #[.bool false]) := Lib.hid br
          have bmh : Hid (Blk W (w.heap.size + 1 + 1 + 1 + 1 + 1 + 1) 3 #[.int .i64 (n8 y)]) := Lib.hid bm
          have eqw : (n8 y == (0 : Int)) = true := by
            have h9 := hw2.out
            have h8 := n8_def y
            rw [List.length_take] at hl
            refine beq_iff_eq.2 ?_
            omega
          clear hK br bm
          have hg3 := Lib.hid hB
          clear hB
          gi_wp2_with (refine ⟨trivial, ?_⟩; gi_at_call 6; refine (callsIn_wide.2 (haw.out _)).mono ?_; rintro e w' ⟨v, rfl, hv, hg⟩; obtain rfl : v = .bool true := hv; have hKg := Lib.hid ((hg.block D hKlt).trans hKh.out); have hgh := Lib.hid hg; have cr := (blk_more brh.out hg).cell 0; have fr := (blk_more brh.out hg).frozen 0; have cm := (blk_more bmh.out hg).cell 0; clear hg)
          have brw := blk_more brh.out hgh.out
          have hK' := (KeepsOthers.setCell w' ⟨w.heap.size + 1 + 1, 0, none⟩ (.bool true)).same D _ hKg.out rfl
          refine ⟨by simp, .inl ⟨_, _, rfl, run_takeDeferred hK', ?_⟩⟩
          have r1 := cell_kept ((Blk.set_ brw 0 (.bool true)).cell 0) (grownBy_putObj' _ D (.deferred none)) (fun r e => by cases e; exact ⟨_, hK', rfl⟩)
          refine ⟨.bool true, ?_, _, rfl, rfl, ((hg3.out.trans (hgh.out.mono (hg3.out.size))).setCell (p := ⟨w.heap.size + 1 + 1, 0, none⟩) (by simp <;> omega) _).trans (belowK_b (w := w) (Nat.le_refl _) _ D _ _ (by omega) hK' rfl rfl)⟩
          simp [results, Try.f4, go_sem, r1]
      · have h2 : ¬ n ≤ (l.length : Int) := by omega
        gi_wp2_with (refine ⟨trivial, ?_⟩; gi_at_call 12; refine (callsIn_wide.2 (windows_any _ _ _ _ _)).mono ?_; rintro e w' ⟨rfl, rfl⟩)
        obtain ⟨W7, hW7⟩ : ∃ W7, ((((((w.alloc (.cells #[.slice A l.length c] 22)).alloc (.cells #[.int .i64 n] 3)).alloc (.cells #[.bool false] 4)).alloc (.cells #[.slice A l.length c] 22)).alloc (.cells #[.int .i64 n] 3)).alloc (.cells #[.int .i64 (n8 y)] 3)).alloc (.cells #[.int .i64 0] 3) = W7 := ⟨_, rfl⟩
        obtain ⟨bb, bn, br, bB, bN, bs, bm, hsz, hB0⟩ := seven w W7 A l.length c n (n8 y) hW7
        rw [hW7]
        clear hW7
        refine wpIn_rangeFunc_ownG rfl (by omega) (gf := 18) (lb := #[.pointer (some ⟨w.heap.size + 1 + 1 + 1 + 1, 0, none⟩), .pointer (some ⟨w.heap.size + 1 + 1 + 1, 0, none⟩)]) rfl trivial (enters_of Try.func18 (by kernel_rfl) rfl)
          (windows_stops 6 (by omega) (w.heap.size + 4) (w.heap.size + 3) (w.heap.size + 5) A c n l (by omega) hc hm W7 (by omega) (by omega) (by omega) (bN.cell 0) (bB.cell 0) ((hrh.out.below hB0).more (by omega))) belowK_t (belowK_b (by omega)) (Below.refl _ _) (fun _ => rfl)
          (WI w A c l n y) (WX w A c l n y)
          (wi_own w A c l n y _ (by omega)) (wx_own w A c l n y _ (by omega))
          ⟨⟨by simp, bb, bn, br, bs, bm⟩, hB0⟩
          (fun x => { tmps := #[.slice A l.length c, .int .i64 (n), .int .u8 (n8 y), .pointer (some ⟨w.heap.size, 0, none⟩), .pointer (some ⟨w.heap.size + 1, 0, none⟩), undef, .pointer (some ⟨w.heap.size + 1 + 1, 0, none⟩), .func (.func 18) #[] #[.pointer (some ⟨w.heap.size + 1 + 1 + 1 + 1, 0, none⟩), .pointer (some ⟨w.heap.size + 1 + 1 + 1, 0, none⟩)], .pointer (some ⟨w.heap.size + 1 + 1 + 1 + 1 + 1, 0, none⟩), .int .i64 (0), .pointer (some ⟨w.heap.size + 1 + 1 + 1 + 1 + 1 + 1, 0, none⟩), .int .i64 ((x.1 : Int)), .int .u32 (n32 x.2), .slice A l.length c, .int .i64 ((l.length : Int)), .bool false, undef, .slice A l.length c, .int .i64 (n), .func (.func 18) #[] #[.pointer (some ⟨w.heap.size + 1 + 1 + 1 + 1, 0, none⟩), .pointer (some ⟨w.heap.size + 1 + 1 + 1, 0, none⟩)], .func (.func 18) #[] #[.pointer (some ⟨w.heap.size + 1 + 1 + 1 + 1, 0, none⟩), .pointer (some ⟨w.heap.size + 1 + 1 + 1, 0, none⟩)], .bool false, .int .u8 (n8 y), .int .i64 (n8 y), .int .i64 (n), .bool true, .bool true, .int .i64 n, .slice A l.length c, .int .i64 (l.length : Int), .bool (decide (n ≤ (l.length : Int))), .bool (decide (n ≤ (l.length : Int))), undef, undef, undef, undef, undef, undef, undef, .func (.func 18) #[] #[.pointer (some ⟨w.heap.size + 1 + 1 + 1 + 1, 0, none⟩), .pointer (some ⟨w.heap.size + 1 + 1 + 1, 0, none⟩)], .int .i64 ((x.1 : Int)), .int .u32 (n32 x.2), undef, undef, undef, undef, undef, undef, undef, undef, undef, undef, undef, undef, undef, undef, undef, undef, undef, undef, undef, undef, undef, undef, undef, undef, undef, undef, undef, undef, undef, undef, undef, undef, undef, undef, undef, undef, undef, undef], defers := [] }) ?assign ?body ?done ?stop
        case assign =>
          intro lp x W K hK
          dsimp only [enc]
          gi_wp2
          exact hK
        case body =>
          intro lp pre x W hI hlt
          exact absurd hlt (by rw [wins_length, if_neg g]; omega)
        case done =>
          rintro D ys W hD rfl ⟨⟨hpl, bb, bn, br, bs, bm⟩, hB⟩ hK
          have hKlt : D < W.heap.size := (Array.getElem?_eq_some_iff.1 hK).1
          have hKh := Lib.hid hK
          have brh : Hid (Blk W (w.heap.size + 1 + 1) 4 #[.bool false]) := Lib.hid br
          have bmh : Hid (Blk W (w.heap.size + 1 + 1 + 1 + 1 + 1 + 1) 3 #[.int .i64 ((wins l n).length : Int)]) := Lib.hid bm
          have eqw : (((wins l n).length : Int) == (0 : Int)) = true := by
            have h9 := hw2.out
            have h8 := n8_def y
            refine beq_iff_eq.2 ?_
            omega
          clear hK br bm bb bn bs
          have hg3 := Lib.hid hB
          clear hB
          gi_wp2_with (refine ⟨trivial, ?_⟩; gi_at_call 6; refine (callsIn_wide.2 (haw.out _)).mono ?_; rintro e w' ⟨v, rfl, hv, hg⟩; obtain rfl : v = .bool true := hv; have hKg := Lib.hid ((hg.block D hKlt).trans hKh.out); have hgh := Lib.hid hg; have cr := (blk_more brh.out hg).cell 0; have fr := (blk_more brh.out hg).frozen 0; have cm := (blk_more bmh.out hg).cell 0; clear hg)
          have brw := blk_more brh.out hgh.out
          have hK' := (KeepsOthers.setCell w' ⟨w.heap.size + 1 + 1, 0, none⟩ (.bool true)).same D _ hKg.out rfl
          refine ⟨by simp, .inl ⟨_, _, rfl, run_takeDeferred hK', ?_⟩⟩
          have r1 := cell_kept ((Blk.set_ brw 0 (.bool true)).cell 0) (grownBy_putObj' _ D (.deferred none)) (fun r e => by cases e; exact ⟨_, hK', rfl⟩)
          refine ⟨.bool true, ?_, _, rfl, rfl, ((hg3.out.trans (hgh.out.mono (hg3.out.size))).setCell (p := ⟨w.heap.size + 1 + 1, 0, none⟩) (by simp <;> omega) _).trans (belowK_b (w := w) (Nat.le_refl _) _ D _ _ (by omega) hK' rfl rfl)⟩
          simp [results, Try.f4, go_sem, r1]
        case stop =>
          rintro D j pre W hD ⟨k, hk, rfl⟩ ⟨hx, hB⟩ hK
          obtain ⟨rfl, ho⟩ | ⟨rfl, hl, br, bm⟩ := hx
          · exact absurd ho (not_off hk)
          have hKlt : D < W.heap.size := (Array.getElem?_eq_some_iff.1 hK).1
          have hKh := Lib.hid hK
          have brh : Hid (Blk W (w.heap.size + 1 + 1) 4 #[.bool false]) := Lib.hid br
          have bmh : Hid (Blk W (w.heap.size + 1 + 1 + 1 + 1 + 1 + 1) 3 #[.int .i64 (n8 y)]) := Lib.hid bm
          have eqw : (n8 y == (0 : Int)) = true := by
            have h9 := hw2.out
            have h8 := n8_def y
            rw [List.length_take] at hl
            refine beq_iff_eq.2 ?_
            omega
          clear hK br bm
          have hg3 := Lib.hid hB
          clear hB
          gi_wp2_with (refine ⟨trivial, ?_⟩; gi_at_call 6; refine (callsIn_wide.2 (haw.out _)).mono ?_; rintro e w' ⟨v, rfl, hv, hg⟩; obtain rfl : v = .bool true := hv; have hKg := Lib.hid ((hg.block D hKlt).trans hKh.out); have hgh := Lib.hid hg; have cr := (blk_more brh.out hg).cell 0; have fr := (blk_more brh.out hg).frozen 0; have cm := (blk_more bmh.out hg).cell 0; clear hg)
          have brw := blk_more brh.out hgh.out
          have hK' := (KeepsOthers.setCell w' ⟨w.heap.size + 1 + 1, 0, none⟩ (.bool true)).same D _ hKg.out rfl
          refine ⟨by simp, .inl ⟨_, _, rfl, run_takeDeferred hK', ?_⟩⟩
          have r1 := cell_kept ((Blk.set_ brw 0 (.bool true)).cell 0) (grownBy_putObj' _ D (.deferred none)) (fun r e => by cases e; exact ⟨_, hK', rfl⟩)
          refine ⟨.bool true, ?_, _, rfl, rfl, ((hg3.out.trans (hgh.out.mono (hg3.out.size))).setCell (p := ⟨w.heap.size + 1 + 1, 0, none⟩) (by simp <;> omega) _).trans (belowK_b (w := w) (Nat.le_refl _) _ D _ _ (by omega) hK' rfl rfl)⟩
          simp [results, Try.f4, go_sem, r1]
  · have k200 : (200 : Int) < (l.length : Int) := by omega
    refine callsIn_wide.2 ?_
    have g0 := Lib.hid (((((Gr.refl w).alloc (.cells #[.slice A l.length c] 22)).alloc (.cells #[.int .i64 n] 3)).alloc (.cells #[.bool false] 4)))
    have b2 := Lib.hid (Blk.new ((w.alloc (.cells #[.slice A l.length c] 22)).alloc (.cells #[.int .i64 n] 3)) 4 #[.bool false])
    go_enter Try.func4, Try.ntmps4
    go_wp2_with fail
    refine (haw.out _).mono ?_
    rintro e w3 ⟨v, rfl, hv, hg⟩
    obtain rfl : v = .bool true := hv
    have b3 := blk_more b2.out hg
    rw [World.size_alloc, World.size_alloc] at b3
    have c3 := b3.cell 0
    have f3 := b3.frozen 0
    have hgh := Lib.hid hg
    clear hg
    go_wp2
    refine bodyPost_ret (v := .bool true) (by simp [results, Try.results4, go_sem, (b3.set_ 0 (.bool true)).cell 0]) rfl ⟨_, rfl, rfl, ?_⟩
    exact (g0.out.trans hgh.out).setCell (p := ⟨w.heap.size + 1 + 1, 0, none⟩) (by simp <;> omega) _
end Roll
end Go.Proofs.Ytadghiefddjbbaa
