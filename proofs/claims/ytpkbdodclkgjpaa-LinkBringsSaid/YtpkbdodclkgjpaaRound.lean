/- A region that draws its order and only grows memory, in a round of a range over a function. No condition. -/
import Derived.RangeFuncNested
import Derived.RangeFuncBound
import Derived.RangeFuncCalls
import Derived.RangeFuncLeaves
import Derived.Shelf.Abstract
import Derived.Shelf.RegionOpen
import Derived.WalkKit
import Derived.OwnWalkIn
import Derived.TacticsInMore
import Derived.LoopNIn
import Derived.LoopIn
import Derived.IntWalk
import Derived.Test.YtpkbdodclkgjpaaGrowB
set_option linter.unusedVariables false
set_option linter.unusedSimpArgs false
namespace Go.Proofs.Ytpkbdodclkgjpaa
open Go Go.RowKit Go.Shelf W
theorem gr_grown {w w' : World} (h : Gr w w') : w.grownBy w' none := ⟨h.os, h.tape, h.output, h.size, fun k hk _ => h.block k hk⟩
theorem gr_from {w w' : World} (h : Gr w w') (B : Nat) : KeepsFrom B w w' := KeepsFrom.of_grownBy (gr_grown h) (fun j e => by cases e)
theorem blk_more {w w' : World} {g : Nat} {t : TypeId} {cs : Array Value} (h : Blk w g t cs) (hg : Gr w w') : Blk w' g t cs := h.below hg h.lt
/-- All below n₀ but block g lies as it lay. -/
structure Ke (g n₀ : Nat) (A B : World) : Prop where
  os : B.os = A.os
  tape : B.tape = A.tape
  output : B.output = A.output
  size : A.heap.size ≤ B.heap.size
  block : ∀ i, i < n₀ → i ≠ g → B.heap[i]? = A.heap[i]?
theorem Ke.refl (g n₀ : Nat) (A : World) : Ke g n₀ A A := ⟨rfl, rfl, rfl, Nat.le_refl _, fun _ _ _ => rfl⟩
theorem Ke.trans {g n₀ : Nat} {A B C : World} (h : Ke g n₀ A B) (k : Ke g n₀ B C) : Ke g n₀ A C :=
  ⟨k.os.trans h.os, k.tape.trans h.tape, k.output.trans h.output, Nat.le_trans h.size k.size, fun i hi hg => (k.block i hi hg).trans (h.block i hi hg)⟩
theorem Ke.cell {g n₀ : Nat} {A B : World} (h : Ke g n₀ A B) {p : Addr} (hp : p.block < n₀) (hg : p.block ≠ g) : B.cell? p = A.cell? p := by
  unfold World.cell?
  rw [h.block p.block hp hg]
theorem Ke.below {g n₀ n : Nat} {A B : World} (h : Ke g n₀ A B) (hn : n ≤ n₀) (hg : n ≤ g) : Below n A B := ⟨h.os, h.tape, h.output, h.size, fun i hi => h.block i (by omega) (by omega)⟩
theorem Ke.of_gr {g n₀ : Nat} {A B : World} (h : Gr A B) (hn : n₀ ≤ A.heap.size) : Ke g n₀ A B := ⟨Below.os h, Below.tape h, Below.output h, Below.size h, fun i hi _ => Below.block h i (by omega)⟩
theorem Ke.putObj {g n₀ : Nat} (W : World) (l : Nat) (o' : Obj) (hl : n₀ ≤ l) : Ke g n₀ W (W.putObj l o') :=
  ⟨rfl, rfl, rfl, by simp, fun i hi _ => World.putObj_heap_other (by omega)⟩
theorem Ke.setCell {g n₀ : Nat} (W : World) (i : Nat) (u : Value) : Ke g n₀ W (W.setCell ⟨g, i, none⟩ u) :=
  ⟨rfl, rfl, rfl, by simp, fun j _ hj => Below.heap_setCell W ⟨g, i, none⟩ u j hj⟩
theorem Ke.grown {g n₀ : Nat} {A B : World} {row : Option Nat} (h : A.grownBy B row) (hn : n₀ ≤ A.heap.size) (hr : ∀ r, row = some r → r = g ∨ n₀ ≤ r) : Ke g n₀ A B :=
  ⟨World.grownBy.os h, World.grownBy.tape h, World.grownBy.output h, World.grownBy.size h, fun i hi hg => World.grownBy.block h i (by omega) (fun e => by
    cases row with
    | none => cases e
    | some r => cases e; rcases hr i rfl with h | h <;> omega)⟩
theorem blk_own {β : Type} {g : Nat} {t : TypeId} (f : β → Array Value) (B : Nat) : OwnFrom B (fun s W => Blk W g t (f s)) := fun s X Y row hs hg hrow =>
  hs.grown hg (fun e => by
    obtain ⟨_, o, ho, hc⟩ := hrow g e.symm
    have hs' : X.heap[g]? = some (.cells (f s) t (0, 0)) := hs
    rw [hs'] at ho
    cases ho
    cases hc)
def noDefer (ops : Array Oper) : Bool := ops.all fun o => match o.op with | .defer _ => false | _ => true
theorem noDefer_at {ops : Array Oper} (h : noDefer ops = true) {i : Nat} {o : Oper} (ho : ops[i]? = some o) : ∀ c, o.op ≠ .defer c := by
  intro c hc
  obtain ⟨hi, rfl⟩ := Array.getElem?_eq_some_iff.1 ho
  have := (Array.all_eq_true.1 h) i hi
  rw [hc] at this
  cases this
section
variable {P : Program} {ops : Array Oper} {Q : Exit → Act → World → Prop} {l n : Nat}
theorem upon_round {o : Oper} {a : Act} {K K' : Act → World → Prop} (hK : ∀ a w, K a w → K' a w) {r : Result Next} (h : o.upon P a K Q r) : o.uponIn (Fence.wide.inRound l) n P a K' Q r := by
  cases r with
  | ok v w' =>
    cases v <;> simp only [Oper.upon] at h <;> simp only [Oper.uponIn] <;>
      first
        | exact hK _ _ h
        | exact ⟨fun e => (by cases e), (callsIn_wide.2 (Calls.mono h fun e w'' he => by cases e <;> first | exact hK _ _ he | exact he)).inRound l⟩
        | exact ⟨fun e => (by cases e), fun c cs _ => by
            obtain ⟨v, w', hv, hs⟩ := h c cs
            exact ⟨v, w', hK _ _ hv, stepsIn_wide.2 hs⟩⟩
        | exact h.elim
  | halt x w' => cases x <;> simp only [Oper.upon] at h <;> simp only [Oper.uponIn] <;> first | exact h | exact h.elim
theorem wpOp_round (hd : noDefer ops = true) (hno : ¬ LetsOut Q) {i : Nat} {a : Act} {w : World} {K K' : Act → World → Prop} (hK : ∀ a w, K a w → K' a w) (h : wpOp P ops Q i K a w) : wpOpIn (Fence.wide.inRound l) n P ops Q i K' a w := by
  unfold wpOp at h
  unfold wpOpIn
  cases ho : ops[i]? with
  | none =>
    rw [ho] at h
    exact hK _ _ h
  | some o =>
    rw [ho] at h
    simp only at h ⊢
    split
    · rename_i hw
      rw [if_pos hw] at h
      obtain h | ⟨_, h⟩ := h
      · refine ⟨fun _ _ => trivial, ?_⟩
        rw [Oper.semAt_eq _ _ _ (noDefer_at hd ho)]
        exact upon_round hK h
      · exact absurd h hno
    · rename_i hw
      rw [if_neg hw] at h
      exact ⟨fun _ _ => trivial, hK _ _ h⟩
theorem wpAny_round (hd : noDefer ops = true) (hno : ¬ LetsOut Q) : ∀ (fuel : Nat) (listed : Array Bool) (a : Act) (w : World), wpAny P .any ops Q fuel listed a w → wpAnyIn (Fence.wide.inRound l) n P .any ops Q fuel listed a w := by
  intro fuel
  induction fuel with
  | zero => exact fun _ _ _ h => h
  | succ fuel ih => exact fun listed a w h => ⟨h.1, fun i hi => wpOp_round hd hno (fun a w => ih _ a w) (h.2 i hi)⟩
theorem region_growIn {a₀ : Act} {w₀ : World} {id : Nat} (hm : P.follows .mixedOrders = true) (hk : growOk ops a₀.tmps.size = true) (hd : noDefer ops = true) (hno : ¬ LetsOut Q) (h : GW P ops Q a₀ w₀ noneA 0) :
    (Code.region id ops true).wpIn (Fence.wide.inRound l) n P Q a₀ w₀ :=
  wpIn_region_any hm (wpAny_round hd hno _ _ _ _ (h hk noneA_lasts (fun j o hj => absurd hj (by omega)) ops.size _ a₀ _ (by simp [unlisted]) (fun Ψ _ =>
    ⟨(Gr.refl _).drew, rfl, rfl, fun i o d _ hl => by
        exfalso
        rcases Nat.lt_or_ge i ops.size with h' | h'
        · simp [h'] at hl
        · simp [h'] at hl,
      fun _ _ => rfl, fun i o _ hl => by
        exfalso
        rcases Nat.lt_or_ge i ops.size with h' | h'
        · simp [h'] at hl
        · simp [h'] at hl,
      by simp⟩) (fun i hl => by
        rcases Nat.lt_or_ge i ops.size with h' | h'
        · simp [h'] at hl
        · simp [h'] at hl)))
end
end Go.Proofs.Ytpkbdodclkgjpaa

