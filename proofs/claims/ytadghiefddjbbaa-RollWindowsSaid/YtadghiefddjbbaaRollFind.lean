/- roll.Find: the first window that has a sum. No condition but sizes. -/
import Derived.Test.YtadghiefddjbbaaRollWin
set_option linter.unusedVariables false
set_option linter.unusedSimpArgs false
namespace Go.Proofs.Ytadghiefddjbbaa
open Go Go.RowKit Go.Shelf W
attribute [local go_sem] Oper.semAt_some
namespace Roll
/-- The first of the windows that has the sum. -/
def first (ps : List (Nat × UInt32)) (s : UInt32) : Option Nat := (ps.find? fun x => x.2 == s).map (·.1)
def told : Option Nat → Value
  | none => .tuple #[.int .i64 0, .bool false]
  | some k => .tuple #[.int .i64 (k : Int), .bool true]

set_option maxRecDepth 100000 in
set_option maxHeartbeats 2000000 in
theorem find_any (A : Option Addr) (c : Nat) (n : Int) (s : UInt32) (bs : List UInt8) (hs : bs.length ≤ 1099511627776) (hc : bs.length ≤ c) (hcm : c ≤ maxLen) (w : World) (hr : RB w w.heap.size A bs) :
    Calls Try.prog 13 #[.slice A bs.length c, .int .i64 n, .int .u32 (n32 s)] w fun e w' => e = .returned (told (first (wins bs n) s)) ∧ Gr w w' := by
  refine (callsIn_wide (n := 5)).1 ?_
  have hrh := Lib.hid hr
  clear hr
  refine callsIn_of_wp_marks Try.func13 rfl trivial ?_ rfl
  simp only [Try.ntmps13, List.size_toArray, List.length_cons, List.length_nil, Nat.reduceAdd, Nat.reduceSub, Array.replicate_succ, Array.replicate_zero, List.push_toArray, List.append_toArray, List.nil_append, List.cons_append]
  gi_wp2_with (refine ⟨trivial, ?_⟩; gi_at_call 12; refine (callsIn_wide.2 (windows_any _ _ _ _ _)).mono ?_; rintro e w' ⟨rfl, rfl⟩)
  obtain ⟨w5, hw5⟩ : ∃ w5, ((((w.alloc (.cells #[.int .u32 (n32 s)] 24)).alloc (.cells #[.int .i64 0] 3)).alloc (.cells #[.bool false] 4)).alloc (.cells #[.slice A bs.length c] 22)).alloc (.cells #[.int .i64 n] 3) = w5 := ⟨_, rfl⟩
  have b0 : Blk w5 w.heap.size 24 #[.int .u32 (n32 s)] := by rw [← hw5]; exact (((((Blk.new w _ _).alloc _).alloc _).alloc _).alloc _)
  have b1 : Blk w5 (w.heap.size + 1) 3 #[.int .i64 0] := by rw [← hw5]; have := Blk.new (w.alloc (.cells #[.int .u32 (n32 s)] 24)) 3 #[.int .i64 0]; rw [World.size_alloc] at this; exact ((this.alloc _).alloc _).alloc _
  have b2 : Blk w5 (w.heap.size + 2) 4 #[.bool false] := by rw [← hw5]; have := Blk.new ((w.alloc (.cells #[.int .u32 (n32 s)] 24)).alloc (.cells #[.int .i64 0] 3)) 4 #[.bool false]; rw [World.size_alloc, World.size_alloc] at this; exact (this.alloc _).alloc _
  have b3 : Blk w5 (w.heap.size + 3) 22 #[.slice A bs.length c] := by rw [← hw5]; have := Blk.new (((w.alloc (.cells #[.int .u32 (n32 s)] 24)).alloc (.cells #[.int .i64 0] 3)).alloc (.cells #[.bool false] 4)) 22 #[.slice A bs.length c]; rw [World.size_alloc, World.size_alloc, World.size_alloc] at this; exact this.alloc _
  have b4 : Blk w5 (w.heap.size + 4) 3 #[.int .i64 n] := by rw [← hw5]; have := Blk.new ((((w.alloc (.cells #[.int .u32 (n32 s)] 24)).alloc (.cells #[.int .i64 0] 3)).alloc (.cells #[.bool false] 4)).alloc (.cells #[.slice A bs.length c] 22)) 3 #[.int .i64 n]; rw [World.size_alloc, World.size_alloc, World.size_alloc, World.size_alloc] at this; exact this
  have hsz : w5.heap.size = w.heap.size + 5 := by rw [← hw5]; simp
  have hB0 : Below w.heap.size w w5 := by rw [← hw5]; exact (((((Below.refl _ w).alloc (Nat.le_refl _) _).alloc (by simp) _).alloc (by simp; omega) _).alloc (by simp; omega) _).alloc (by simp; omega) _
  rw [hw5]
  clear hw5
  refine wpIn_rangeFunc_ownG rfl (by omega) (gf := 18) (lb := #[.pointer (some ⟨w.heap.size + 1 + 1 + 1 + 1, 0, none⟩), .pointer (some ⟨w.heap.size + 1 + 1 + 1, 0, none⟩)]) rfl trivial (enters_of Try.func18 (by kernel_rfl) rfl)
    (windows_stops 4 (by omega) (w.heap.size + 4) (w.heap.size + 3) (w.heap.size + 5) A c n bs hs hc hcm w5 (by omega) (by omega) (by omega) (b4.cell 0) (b3.cell 0) ((hrh.out.below hB0).more (by omega))) belowK_t (belowK_b (by omega)) (Below.refl _ _) (fun _ => rfl)
    (fun pre W => ((∀ x ∈ pre, (x.2 == s) = false) ∧ Boxed W w.heap.size 24 (.int .u32 (n32 s)) ∧ Boxed W (w.heap.size + 1) 3 (.int .i64 0) ∧ Boxed W (w.heap.size + 2) 4 (.bool false)) ∧ Below w.heap.size w W)
    (fun c pre W => (c = .ret ∧ ∃ ini last, pre = ini ++ [last] ∧ (∀ x ∈ ini, (x.2 == s) = false) ∧ (last.2 == s) = true ∧ Boxed W (w.heap.size + 1) 3 (.int .i64 (last.1 : Int)) ∧ Boxed W (w.heap.size + 2) 4 (.bool true)) ∧ Below w.heap.size w W)
    (OwnFrom.and (Own.from (fun s A B row hs hg hr => ⟨hs.1, boxed_own _ _ (fun (_ : List (Nat × UInt32)) => _) s A B row hs.2.1 hg hr, boxed_own _ _ (fun (_ : List (Nat × UInt32)) => _) s A B row hs.2.2.1 hg hr, boxed_own _ _ (fun (_ : List (Nat × UInt32)) => _) s A B row hs.2.2.2 hg hr⟩) _) (ownFrom_below (Nat.le_refl _) (by omega)))
    (fun c => OwnFrom.and (Own.from (fun s A B row hs hg hr => by obtain ⟨hc, ini, last, e1, e2, e3, e4, e5⟩ := hs; exact ⟨hc, ini, last, e1, e2, e3, boxed_own _ _ (fun (_ : List (Nat × UInt32)) => _) s A B row e4 hg hr, boxed_own _ _ (fun (_ : List (Nat × UInt32)) => _) s A B row e5 hg hr⟩) _) (ownFrom_below (Nat.le_refl _) (by omega)))
    ⟨⟨by simp, b0, b1, b2⟩, hB0⟩
    (fun x => { tmps := #[.slice A bs.length c, .int .i64 n, .int .u32 (n32 s), undef, undef, .pointer (some ⟨w.heap.size, 0, none⟩), .pointer (some ⟨w.heap.size + 1, 0, none⟩), .pointer (some ⟨w.heap.size + 1 + 1, 0, none⟩), .int .i64 (x.1 : Int), .int .u32 (n32 x.2), .slice A bs.length c, .int .i64 n, .func (.func 18) #[] #[.pointer (some ⟨w.heap.size + 1 + 1 + 1 + 1, 0, none⟩), .pointer (some ⟨w.heap.size + 1 + 1 + 1, 0, none⟩)], .int .i64 (x.1 : Int), .int .u32 (n32 x.2), undef, undef, undef, undef], defers := [] }) ?assign ?body ?done ?stop
  case assign =>
    intro l x W K hK
    dsimp only [enc]
    gi_wp2
    exact hK
  case body =>
    rintro l pre x W ⟨⟨hp, c0, c1, c2⟩, hB⟩ _
    have d0 : W.cell? ⟨w.heap.size, 0, none⟩ = some (.int .u32 (n32 s)) := Blk.cell c0 0
    have d1 : W.cell? ⟨w.heap.size + 1, 0, none⟩ = some (.int .i64 0) := Blk.cell c1 0
    have f1 : W.frozen? ⟨w.heap.size + 1, 0, none⟩ = false := Blk.frozen c1 0
    have c2' : Blk (W.setCell ⟨w.heap.size + 1, 0, none⟩ (.int .i64 (x.1 : Int))) (w.heap.size + 2) 4 #[.bool false] := Blk.far c2 (by simp) _
    have d2 : (W.setCell ⟨w.heap.size + 1, 0, none⟩ (.int .i64 (x.1 : Int))).cell? ⟨w.heap.size + 1 + 1, 0, none⟩ = some (.bool false) := c2'.cell 0
    have f2 : (W.setCell ⟨w.heap.size + 1, 0, none⟩ (.int .i64 (x.1 : Int))).frozen? ⟨w.heap.size + 1 + 1, 0, none⟩ = false := c2'.frozen 0
    have hB1 : Below w.heap.size w (W.setCell ⟨w.heap.size + 1, 0, none⟩ (.int .i64 (x.1 : Int))) := hB.setCell (p := ⟨w.heap.size + 1, 0, none⟩) (by simp) _
    cases hx : (x.2 == s)
    · gi_wp2
      exact ⟨KeepsFrom.refl _ _, Below.refl _ _, ⟨fun p hp' => (List.mem_append.1 hp').elim (hp p) (fun e => by simp at e; subst e; exact hx), c0, c1, c2⟩, hB⟩
    · gi_wp2
      refine ⟨(KeepsOthers.trans (KeepsOthers.setCell _ _ _) (KeepsOthers.setCell _ _ _)).from _, ⟨rfl, pre, x, rfl, hp, hx, ?_, ?_⟩, ?_⟩
      · exact Blk.far (Blk.set_ c1 0 _) (by simp) _
      · exact Blk.set_ c2' 0 _
      · exact hB1.setCell (p := ⟨w.heap.size + 1 + 1, 0, none⟩) (by simp; omega) _
  case done =>
    rintro D ys W hD rfl ⟨⟨hne, c0, c1, c2⟩, hB⟩ hK
    have d1 : W.cell? ⟨w.heap.size + 1, 0, none⟩ = some (.int .i64 0) := Blk.cell c1 0
    have f1 : W.frozen? ⟨w.heap.size + 1, 0, none⟩ = false := Blk.frozen c1 0
    have c1' : Blk (W.setCell ⟨w.heap.size + 1, 0, none⟩ (.int .i64 0)) (w.heap.size + 1) 3 #[.int .i64 0] := Blk.set_ c1 0 _
    have c2' : Blk (W.setCell ⟨w.heap.size + 1, 0, none⟩ (.int .i64 0)) (w.heap.size + 2) 4 #[.bool false] := Blk.far c2 (by simp) _
    have d2 : (W.setCell ⟨w.heap.size + 1, 0, none⟩ (.int .i64 0)).cell? ⟨w.heap.size + 1 + 1, 0, none⟩ = some (.bool false) := c2'.cell 0
    have f2 : (W.setCell ⟨w.heap.size + 1, 0, none⟩ (.int .i64 0)).frozen? ⟨w.heap.size + 1 + 1, 0, none⟩ = false := c2'.frozen 0
    have c1'' : Blk ((W.setCell ⟨w.heap.size + 1, 0, none⟩ (.int .i64 0)).setCell ⟨w.heap.size + 1 + 1, 0, none⟩ (.bool false)) (w.heap.size + 1) 3 #[.int .i64 0] := Blk.far c1' (by simp) _
    have c2'' : Blk ((W.setCell ⟨w.heap.size + 1, 0, none⟩ (.int .i64 0)).setCell ⟨w.heap.size + 1 + 1, 0, none⟩ (.bool false)) (w.heap.size + 2) 4 #[.bool false] := Blk.set_ c2' 0 _
    have hB1 : Below w.heap.size w (W.setCell ⟨w.heap.size + 1, 0, none⟩ (.int .i64 0)) := hB.setCell (p := ⟨w.heap.size + 1, 0, none⟩) (by simp) _
    have hB2 : Below w.heap.size w ((W.setCell ⟨w.heap.size + 1, 0, none⟩ (.int .i64 0)).setCell ⟨w.heap.size + 1 + 1, 0, none⟩ (.bool false)) := hB1.setCell (p := ⟨w.heap.size + 1 + 1, 0, none⟩) (by simp; omega) _
    gi_wp2
    have hK' := (KeepsOthers.trans (KeepsOthers.setCell W ⟨w.heap.size + 1, 0, none⟩ (.int .i64 0)) (KeepsOthers.setCell _ ⟨w.heap.size + 1 + 1, 0, none⟩ (.bool false))).same D _ hK rfl
    refine ⟨by simp, .inl ⟨_, _, rfl, run_takeDeferred hK', ?_⟩⟩
    have r1 := cell_kept (c1''.cell 0) (grownBy_putObj' _ D (.deferred none)) (fun r e => by cases e; exact ⟨_, hK', rfl⟩)
    have r2 := cell_kept (c2''.cell 0) (grownBy_putObj' _ D (.deferred none)) (fun r e => by cases e; exact ⟨_, hK', rfl⟩)
    have hn : first (wins bs n) s = none := by
      unfold first
      rw [List.find?_eq_none.2 (fun x hx => by rw [hne x hx]; simp)]
      rfl
    rw [hn]
    refine ⟨told none, ?_, rfl, hB2.trans (belowK_b (w := w) (Nat.le_refl _) _ D _ _ (by omega) hK' rfl rfl)⟩
    simp [results, Try.f13, go_sem, r1, r2, told]
  case stop =>
    rintro D c pre W hD ⟨k, hk, rfl⟩ ⟨⟨rfl, ini, last, e1, e2, e3, c1, c2⟩, hB⟩ hK
    gi_wp2
    refine ⟨by simp, .inl ⟨_, _, rfl, run_takeDeferred hK, ?_⟩⟩
    have r1 := cell_kept (Blk.cell c1 0) (grownBy_putObj' _ D (.deferred none)) (fun r e => by cases e; exact ⟨_, hK, rfl⟩)
    have r2 := cell_kept (Blk.cell c2 0) (grownBy_putObj' _ D (.deferred none)) (fun r e => by cases e; exact ⟨_, hK, rfl⟩)
    have hn : first (wins bs n) s = some last.1 := by
      unfold first
      rw [← List.take_append_drop k (wins bs n), e1, List.append_assoc, List.find?_append, List.find?_eq_none.2 (fun x hx => by rw [e2 x hx]; simp)]
      simp [e3]
    rw [hn]
    refine ⟨told (some last.1), ?_, rfl, hB.trans (belowK_b (w := w) (Nat.le_refl _) W D _ _ (by omega) hK rfl rfl)⟩
    simp [results, Try.f13, go_sem, r1, r2, told]
end Roll
end Go.Proofs.Ytadghiefddjbbaa
