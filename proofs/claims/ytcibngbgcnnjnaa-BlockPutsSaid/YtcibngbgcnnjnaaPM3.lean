/- Texts that the law rests on, merged. No condition. -/
import Derived.Test.YtcibngbgcnnjnaaPM1
import Derived.Test.YtcibngbgcnnjnaaPM2
import Derived.RangeFuncNested
import Derived.RangeFuncBound
import Derived.RangeFuncCalls
import Derived.RangeFuncLeaves
import Derived.Shelf.Abstract
import Derived.Shelf.RegionOpen
import Derived.WalkKit
import Derived.OwnWalkIn
import Derived.TacticsInMore
import Derived.LoopNIn
import Derived.LoopIn
import Derived.IntWalk
import Derived.Deep.RegionLaw
import Derived.Laws.MakeOwn
set_option linter.unusedVariables false
set_option linter.unusedSimpArgs false
namespace Go.Proofs.Ytcibngbgcnnjnaa
open Go Go.RowKit Go.Shelf W
theorem gr_grown {w w' : World} (h : Gr w w') : w.grownBy w' none := ⟨h.os, h.tape, h.output, h.size, fun k hk _ => h.block k hk⟩
theorem gr_from {w w' : World} (h : Gr w w') (B : Nat) : KeepsFrom B w w' := KeepsFrom.of_grownBy (gr_grown h) (fun j e => by cases e)
theorem blk_more {w w' : World} {g : Nat} {t : TypeId} {cs : Array Value} (h : Blk w g t cs) (hg : Gr w w') : Blk w' g t cs := h.below hg h.lt
/-- All below n₀ but block g lies as it lay. -/
structure Ke (g n₀ : Nat) (A B : World) : Prop where
  os : B.os = A.os
  tape : B.tape = A.tape
  output : B.output = A.output
  size : A.heap.size ≤ B.heap.size
  block : ∀ i, i < n₀ → i ≠ g → B.heap[i]? = A.heap[i]?
theorem Ke.refl (g n₀ : Nat) (A : World) : Ke g n₀ A A := ⟨rfl, rfl, rfl, Nat.le_refl _, fun _ _ _ => rfl⟩
theorem Ke.trans {g n₀ : Nat} {A B C : World} (h : Ke g n₀ A B) (k : Ke g n₀ B C) : Ke g n₀ A C :=
  ⟨k.os.trans h.os, k.tape.trans h.tape, k.output.trans h.output, Nat.le_trans h.size k.size, fun i hi hg => (k.block i hi hg).trans (h.block i hi hg)⟩
theorem Ke.cell {g n₀ : Nat} {A B : World} (h : Ke g n₀ A B) {p : Addr} (hp : p.block < n₀) (hg : p.block ≠ g) : B.cell? p = A.cell? p := by
  unfold World.cell?
  rw [h.block p.block hp hg]
theorem Ke.below {g n₀ n : Nat} {A B : World} (h : Ke g n₀ A B) (hn : n ≤ n₀) (hg : n ≤ g) : Below n A B := ⟨h.os, h.tape, h.output, h.size, fun i hi => h.block i (by omega) (by omega)⟩
theorem Ke.of_gr {g n₀ : Nat} {A B : World} (h : Gr A B) (hn : n₀ ≤ A.heap.size) : Ke g n₀ A B := ⟨Below.os h, Below.tape h, Below.output h, Below.size h, fun i hi _ => Below.block h i (by omega)⟩
theorem Ke.putObj {g n₀ : Nat} (W : World) (l : Nat) (o' : Obj) (hl : n₀ ≤ l) : Ke g n₀ W (W.putObj l o') :=
  ⟨rfl, rfl, rfl, by simp, fun i hi _ => World.putObj_heap_other (by omega)⟩
theorem Ke.setCell {g n₀ : Nat} (W : World) (i : Nat) (u : Value) : Ke g n₀ W (W.setCell ⟨g, i, none⟩ u) :=
  ⟨rfl, rfl, rfl, by simp, fun j _ hj => Below.heap_setCell W ⟨g, i, none⟩ u j hj⟩
theorem Ke.grown {g n₀ : Nat} {A B : World} {row : Option Nat} (h : A.grownBy B row) (hn : n₀ ≤ A.heap.size) (hr : ∀ r, row = some r → r = g ∨ n₀ ≤ r) : Ke g n₀ A B :=
  ⟨World.grownBy.os h, World.grownBy.tape h, World.grownBy.output h, World.grownBy.size h, fun i hi hg => World.grownBy.block h i (by omega) (fun e => by
    cases row with
    | none => cases e
    | some r => cases e; rcases hr i rfl with h | h <;> omega)⟩
theorem blk_own {β : Type} {g : Nat} {t : TypeId} (f : β → Array Value) (B : Nat) : OwnFrom B (fun s W => Blk W g t (f s)) := fun s X Y row hs hg hrow =>
  hs.grown hg (fun e => by
    obtain ⟨_, o, ho, hc⟩ := hrow g e.symm
    have hs' : X.heap[g]? = some (.cells (f s) t (0, 0)) := hs
    rw [hs'] at ho
    cases ho
    cases hc)
def noDefer (ops : Array Oper) : Bool := ops.all fun o => match o.op with | .defer _ => false | _ => true
theorem noDefer_at {ops : Array Oper} (h : noDefer ops = true) {i : Nat} {o : Oper} (ho : ops[i]? = some o) : ∀ c, o.op ≠ .defer c := by
  intro c hc
  obtain ⟨hi, rfl⟩ := Array.getElem?_eq_some_iff.1 ho
  have := (Array.all_eq_true.1 h) i hi
  rw [hc] at this
  cases this
section
variable {P : Program} {ops : Array Oper} {Q : Exit → Act → World → Prop} {l n : Nat}
theorem upon_round {o : Oper} {a : Act} {K K' : Act → World → Prop} (hK : ∀ a w, K a w → K' a w) {r : Result Next} (h : o.upon P a K Q r) : o.uponIn (Fence.wide.inRound l) n P a K' Q r := by
  cases r with
  | ok v w' =>
    cases v <;> simp only [Oper.upon] at h <;> simp only [Oper.uponIn] <;>
      first
        | exact hK _ _ h
        | exact ⟨fun e => (by cases e), (callsIn_wide.2 (Calls.mono h fun e w'' he => by cases e <;> first | exact hK _ _ he | exact he)).inRound l⟩
        | exact ⟨fun e => (by cases e), fun c cs _ => by
            obtain ⟨v, w', hv, hs⟩ := h c cs
            exact ⟨v, w', hK _ _ hv, stepsIn_wide.2 hs⟩⟩
        | exact h.elim
  | halt x w' => cases x <;> simp only [Oper.upon] at h <;> simp only [Oper.uponIn] <;> first | exact h | exact h.elim
theorem wpOp_round (hd : noDefer ops = true) (hno : ¬ LetsOut Q) {i : Nat} {a : Act} {w : World} {K K' : Act → World → Prop} (hK : ∀ a w, K a w → K' a w) (h : wpOp P ops Q i K a w) : wpOpIn (Fence.wide.inRound l) n P ops Q i K' a w := by
  unfold wpOp at h
  unfold wpOpIn
  cases ho : ops[i]? with
  | none =>
    rw [ho] at h
    exact hK _ _ h
  | some o =>
    rw [ho] at h
    simp only at h ⊢
    split
    · rename_i hw
      rw [if_pos hw] at h
      obtain h | ⟨_, h⟩ := h
      · refine ⟨fun _ _ => trivial, ?_⟩
        rw [Oper.semAt_eq _ _ _ (noDefer_at hd ho)]
        exact upon_round hK h
      · exact absurd h hno
    · rename_i hw
      rw [if_neg hw] at h
      exact ⟨fun _ _ => trivial, hK _ _ h⟩
theorem wpAny_round (hd : noDefer ops = true) (hno : ¬ LetsOut Q) : ∀ (fuel : Nat) (listed : Array Bool) (a : Act) (w : World), wpAny P .any ops Q fuel listed a w → wpAnyIn (Fence.wide.inRound l) n P .any ops Q fuel listed a w := by
  intro fuel
  induction fuel with
  | zero => exact fun _ _ _ h => h
  | succ fuel ih => exact fun listed a w h => ⟨h.1, fun i hi => wpOp_round hd hno (fun a w => ih _ a w) (h.2 i hi)⟩
theorem region_growIn {a₀ : Act} {w₀ : World} {id : Nat} (hm : P.follows .mixedOrders = true) (hk : growOk ops a₀.tmps.size = true) (hd : noDefer ops = true) (hno : ¬ LetsOut Q) (h : GW P ops Q a₀ w₀ noneA 0) :
    (Code.region id ops true).wpIn (Fence.wide.inRound l) n P Q a₀ w₀ :=
  wpIn_region_any hm (wpAny_round hd hno _ _ _ _ (h hk noneA_lasts (fun j o hj => absurd hj (by omega)) ops.size _ a₀ _ (by simp [unlisted]) (fun Ψ _ =>
    ⟨(Gr.refl _).drew, rfl, rfl, fun i o d _ hl => by
        exfalso
        rcases Nat.lt_or_ge i ops.size with h' | h'
        · simp [h'] at hl
        · simp [h'] at hl,
      fun _ _ => rfl, fun i o _ hl => by
        exfalso
        rcases Nat.lt_or_ge i ops.size with h' | h'
        · simp [h'] at hl
        · simp [h'] at hl,
      by simp⟩) (fun i hl => by
        rcases Nat.lt_or_ge i ops.size with h' | h'
        · simp [h'] at hl
        · simp [h'] at hl)))
end
end Go.Proofs.Ytcibngbgcnnjnaa
namespace Go.Proofs.Ytcibngbgcnnjnaa
open Go Go.RowKit Go.Shelf W
variable {F : Fence} {n : Nat} {P : Program}
/-- What is said stays said when only block b is written, and more memory is made. -/
def Bears {α : Type} (b : Nat) (J : List α → World → Prop) : Prop := ∀ s A B, J s A → Kb b A B → J s B
/-- The iterator's contract: it may write block b. -/
def SeqB {α : Type} (F : Fence) (n : Nat) (P : Program) (g : Nat) (lb : Array Value) (encs : α → Array Value) (b : Nat) (Kp : World → World → Prop) (S Sp : List α → Prop) (N : Nat) (W : World) : Prop :=
  ∀ (l : Nat) (J Jx : List α → World → Prop), Bears b J → Bears b Jx →
    (∀ pre x W1, J pre W1 → pre.length < N → YieldAt F (n - 1) P l (encs x) W1 fun e W' =>
      (e = .returned (.bool true) ∧ J (pre ++ [x]) W' ∧ Kp W1 W') ∨ (e = .returned (.bool false) ∧ Jx (pre ++ [x]) W')) →
    J [] W → CallsIn F n P g (#[.func (.yield l) #[] #[]] ++ lb) W fun e W' => (∃ v, e = .returned v) ∧ ((∃ xs, S xs ∧ J xs W') ∨ (∃ pre, Sp pre ∧ Jx pre W'))
/-- The loop's two records, at d and behind it. -/
structure Booked (W : World) (d : Nat) (r : Loop) : Prop where
  hd : W.heap[d]? = some (.deferred (some []))
  hl : W.heap[d + 1]? = some (.loop r)
theorem Booked.bears {A B : World} {d b : Nat} {r : Loop} (h : Booked A d r) (k : Kb b A B) (hb : b < d) : Booked B d r :=
  ⟨(World.grownBy.block k d (Array.getElem?_eq_some_iff.1 h.hd).1 (by simp; omega)).trans h.hd,
   (World.grownBy.block k (d + 1) (Array.getElem?_eq_some_iff.1 h.hl).1 (by simp; omega)).trans h.hl⟩
theorem Booked.put {W : World} {d : Nat} {r : Loop} (h : Booked W d r) (r' : Loop) : Booked (W.putObj (d + 1) (.loop r')) d r' :=
  ⟨(World.putObj_heap_other (by omega)).trans h.hd, World.putObj_heap_same (Array.getElem?_eq_some_iff.1 h.hl).1⟩
theorem Booked.keeps {A B : World} {d : Nat} {r : Loop} (h : Booked A d r) (k : KeepsFrom d A B) : Booked B d r :=
  ⟨k.same _ _ (Nat.le_refl _) h.hd rfl, k.same _ _ (by omega) h.hl rfl⟩
theorem wpIn_rangeBox {α : Type} {g : Operand} {ps : Array Tmp} {assign body : Code} {Q : Exit → Act → World → Prop} {a : Act} {w : World} {b : Nat} (hbw : b < w.heap.size)
    (hro : F.round = none) (h1 : 1 ≤ n) {gf : Nat} {lb : Array Value} (hg : a.eval g = .func (.func gf) #[] lb) (hFg : F.fn gf) (eg : ∀ args w, (callFunc gf args).run P w = .ok (.enter gf args) w)
    {encs : α → Array Value} {Kp : World → World → Prop} {S Sp : List α → Prop} {N : Nat} (hseq : ∀ W, Below w.heap.size w W → SeqB F (n - 1) P gf lb encs b Kp S Sp N W)
    (hKt : ∀ {A B C : World}, Kp A B → Kp B C → Kp A C) (hKb : ∀ (W : World) (l : Nat) (o : Obj), w.heap.size ≤ l → Kp W (W.putObj l o)) (hps : ∀ x, (encs x).size = ps.size)
    (I : List α → World → Prop) (Ix : Code → List α → World → Prop) (hI : OwnFrom w.heap.size I) (hIx : ∀ c, OwnFrom w.heap.size (Ix c)) (hB : Bears b I) (hBx : ∀ c, Bears b (Ix c)) (h0 : I [] w) (a₁ : α → Act)
    (hassign : ∀ (l : Nat) (x : α) (W : World) (K : Act → World → Prop), K (a₁ x) W →
      assign.wpIn (F.inRound l) (n - 1 - 1) P (Exit.then K (fun _ _ _ => False)) { tmps := (ps.zip (encs x)).foldl (fun t (p, v) => t.setIfInBounds p v) a.tmps, defers := [] } W)
    (hbody : ∀ (l : Nat) (pre : List α) (x : α) (W : World), I pre W → pre.length < N → body.wpIn (F.inRound l) (n - 1 - 1) P (ownPostG w.heap.size Kp I Ix (pre ++ [x]) W) (a₁ x) W)
    (hdone : ∀ (D : Nat) (xs : List α) (W : World), w.heap.size ≤ D → S xs → I xs W → W.heap[D]? = some (.deferred (some [])) → Q .normal { a with defers := { target := .collected D, args := #[] } :: a.defers } W)
    (hstop : ∀ (D : Nat) (c : Code) (pre : List α) (W : World), w.heap.size ≤ D → Sp pre → Ix c pre W → W.heap[D]? = some (.deferred (some [])) → c.wpIn F n P Q { a with defers := { target := .collected D, args := #[] } :: a.defers } W) :
    (Code.rangeFunc g ps assign body).wpIn F n P Q a w := by
  refine wpIn_rangeFunc fun fn hfn => ?_
  rw [hro]
  obtain ⟨d, hd⟩ : ∃ d, w.heap.size = d := ⟨_, rfl⟩
  obtain ⟨R, hR⟩ : ∃ R : LoopState → Option Code → Loop, R = fun st pe => { state := st, pending := pe, fn, tmps := a.tmps, params := ps, assign, body, defers := d } := ⟨_, rfl⟩
  have grow : Below w.heap.size w ((w.alloc (.deferred (some []))).alloc (.loop (R .ready none))) := ((Below.refl _ w).alloc (Nat.le_refl _) _).alloc (by simp) _
  have book : Booked ((w.alloc (.deferred (some []))).alloc (.loop (R .ready none))) d (R .ready none) := by
    refine ⟨?_, ?_⟩
    · rw [← hd]
      exact (Below.heap_alloc _ _ _ (by simp)).trans (World.alloc_heap_new w _)
    · have h := World.alloc_heap_new (w.alloc (.deferred (some []))) (.loop (R .ready none))
      rw [World.size_alloc, hd] at h
      exact h
  have start : I [] ((w.alloc (.deferred (some []))).alloc (.loop (R .ready none))) := hI.alloc _ (hI.alloc _ h0)
  have enter : (Instr.enterLoop fn a.tmps ps assign body none).run P w = .ok (w.heap.size + 1, [{ target := .collected w.heap.size, args := #[] }]) ((w.alloc (.deferred (some []))).alloc (.loop (R .ready none))) := by
    rw [hR, ← hd]
    exact run_enterLoop_outer _ _ _ _ _
  generalize (w.alloc (.deferred (some []))).alloc (.loop (R .ready none)) = V at grow book start enter
  have turnI : ∀ {s : List α} {W : World} {r : Loop} (r' : Loop), I s W → Booked W d r → I s (W.putObj (d + 1) (.loop r')) := fun r' hi hk => hI.putObj _ hi (by omega) hk.hl rfl
  have turnX : ∀ {c : Code} {s : List α} {W : World} {r : Loop} (r' : Loop), Ix c s W → Booked W d r → Ix c s (W.putObj (d + 1) (.loop r')) := fun r' hi hk => (hIx _).putObj _ hi (by omega) hk.hl rfl
  rw [hd] at enter
  refine ⟨d + 1, [{ target := .collected d, args := #[] }], V, { target := .fn (.func gf) lb, args := #[.func (.yield (d + 1)) #[] #[]] }, V, gf, #[.func (.yield (d + 1)) #[] #[]] ++ lb, V, enter,
    by simp only [resolve, hg]; simp [go_sem], fun f' hf' => by simp [Target.leads] at hf'; subst hf'; exact hFg, by simp [invoke, go_sem, eg], fun _ => h1, ?_⟩
  refine (hseq V grow (d + 1) (fun s W => I s W ∧ Booked W d (R .ready none)) (fun s W => ∃ c, Ix c s W ∧ Booked W d (R .done (some c)))
    (fun s A B h k => ⟨hB s A B h.1 k, h.2.bears k (by omega)⟩)
    (fun s A B ⟨c, hc, hk⟩ k => ⟨c, hBx c s A B hc k, hk.bears k (by omega)⟩) ?_ ⟨start, book⟩).mono ?_
  · rintro pre x W ⟨hi, hk⟩ hN
    have yields := run_yield (P := P) (args := encs x) hk.hl (by rw [hR]; exact hps x)
    rw [hR] at yields
    have begins := run_beginRound (P := P) hk.hl (by rw [hR])
    refine ⟨fn, _, assign, body, yields, roundIn_of_wpIn hfn (hassign _ x W _ ⟨_, begins, ?_⟩)⟩
    have busy := hk.put { R .ready none with state := .busy }
    have close : ∀ (j : Option Code) (Y : World), Booked Y d { R .ready none with state := .busy } →
        (Instr.endRound (d + 1) j).run P Y = .ok (.bool j.isNone) (Y.putObj (d + 1) (.loop (R (if j.isNone then .ready else .done) j))) := fun j Y hy => by
      have h := run_endRound (P := P) j hy.hl
      rw [hR] at h ⊢
      exact h
    have leave : ∀ (c : Code) (Y : World), KeepsFrom w.heap.size (W.putObj (d + 1) (.loop { R .ready none with state := .busy })) Y → Ix c (pre ++ [x]) Y →
        ∃ v W', (Instr.endRound (d + 1) (some c)).run P Y = .ok v W' ∧ ((Ending.returned v = .returned (.bool true) ∧ (I (pre ++ [x]) W' ∧ Booked W' d (R .ready none)) ∧ Kp W W') ∨ (Ending.returned v = .returned (.bool false) ∧ ∃ c, Ix c (pre ++ [x]) W' ∧ Booked W' d (R .done (some c)))) := fun c Y k3 hx => by
      have hy := busy.keeps (hd ▸ k3)
      exact ⟨_, _, close (some c) Y hy, .inr ⟨rfl, c, turnX _ hx hy, hy.put _⟩⟩
    refine wpIn_mono (hbody _ pre x _ (turnI _ hi hk) hN) fun e a3 Y hp => ?_
    cases e with
    | normal =>
      obtain ⟨k3, kp3, hi3⟩ := hp
      have hy := busy.keeps (hd ▸ k3)
      exact ⟨_, _, close none Y hy, .inl ⟨rfl, ⟨turnI _ hi3 hy, hy.put _⟩, hKt (hKt (hKb _ _ _ (by omega)) kp3) (hKb _ _ _ (by omega))⟩⟩
    | ret => exact leave .ret Y hp.1 hp.2
    | exit id => exact leave (.exit id) Y hp.1 hp.2
    | goto t => exact leave (.goto t) Y hp.1 hp.2
    | panic ch => exact hp.elim
    | outgrown => exact hp.elim
  · rintro e Y ⟨⟨v, rfl⟩, (⟨xs, hS, hi, hk⟩ | ⟨pre, hSp, c, hi, hk⟩)⟩
    · have ends := run_endLoop (P := P) hk.hl (by rw [hR]; simp)
      rw [hR] at ends
      exact ⟨none, _, ends, hdone d xs _ (by omega) hS (turnI _ hi hk) ((World.putObj_heap_other (by omega)).trans hk.hd)⟩
    · have ends := run_endLoop (P := P) hk.hl (by rw [hR]; simp)
      rw [hR] at ends
      exact ⟨some c, _, ends, hstop d c pre _ (by omega) hSp (turnX _ hi hk) ((World.putObj_heap_other (by omega)).trans hk.hd)⟩
end Go.Proofs.Ytcibngbgcnnjnaa
namespace Go.Proofs.Ytcibngbgcnnjnaa
open Go Go.RowKit Go.Shelf W Bl
attribute [local go_sem] Oper.semAt_some
namespace Sg
def encB (A : Option Addr) (c L h : Nat) (k : Nat) : Array Value := #[.slice (A.map (·.add (k * h))) (min h (L - k * h)) (c - k * h)]
def leftB (Bb : Nat) (w : World) : Nat := match w.cell? ⟨Bb, 0, none⟩ with | some (.slice _ n _) => n | _ => 0
theorem leftB_eq {Bb : Nat} {w : World} {t : TypeId} {A : Option Addr} {n c : Nat} (h : Blk w Bb t #[.slice A n c]) : leftB Bb w = n := by
  unfold leftB
  rw [h.cell 0]
  rfl
set_option maxRecDepth 100000 in
set_option maxHeartbeats 2000000 in
theorem blocks1_in (m : Nat) (hm : 1 ≤ m) (l Bb Bs : Nat) (ad : Addr) (c : Nat) (L z : Nat) (hs : L ≤ 1000000) (hc : L ≤ c) (hcm : c ≤ maxLen) (h0 : 0 < L) (h4 : 4 ≤ z) (h64 : z ≤ 64)
    (Kp : World → World → Prop)
    (kb : ∀ {A B : World} {v : Value}, Kp A B → Blk A Bb 26 #[v] → Blk B Bb 26 #[v]) (kd : ∀ {A B : World} {v : Value}, Kp A B → Blk A Bs 3 #[v] → Blk B Bs 3 #[v])
    (J Jx : List Nat → World → Prop) (W : World) (hJ : Bears Bb J)
    (hY : ∀ pre x W1, J pre W1 → pre.length < count L z → YieldAt Fence.wide (m - 1) Try.prog l (encB (some ad) c L z x) W1 fun e W' =>
      (e = .returned (.bool true) ∧ J (pre ++ [x]) W' ∧ Kp W1 W') ∨ (e = .returned (.bool false) ∧ Jx (pre ++ [x]) W'))
    (b0 : Blk W Bb 26 #[.slice (some ad) L c]) (s0 : Blk W Bs 3 #[.int .i64 (z : Int)]) (hne : Bs ≠ Bb) (hJ0 : J [] W) :
    CallsIn Fence.wide m Try.prog 48 #[.func (.yield l) #[] #[], .pointer (some ⟨Bb, 0, none⟩), .pointer (some ⟨Bs, 0, none⟩)] W fun e W' => (∃ v, e = .returned v) ∧
      ((∃ ys, ys = List.range (count L z) ∧ J ys W') ∨ (∃ pre, (∃ k, k ≤ count L z ∧ pre = List.range k) ∧ Jx pre W')) := by
  have hYh := Lib.hid hY
  have hJh := Lib.hid hJ
  have hct := Lib.hid (fun k => count_lt (n := L) (h := z) (k := k) (by omega))
  clear hY hJ
  refine callsIn_of_wp Try.func48 rfl trivial ?_ rfl
  simp only [Try.ntmps48, List.size_toArray, List.length_cons, List.length_nil, Nat.reduceAdd, Nat.reduceSub, Array.replicate_succ, Array.replicate_zero, List.push_toArray, List.append_toArray, List.nil_append, List.cons_append]
  gi_wp2
  gi_loopw [4] (fun i wr => ∃ k Ak ck, k ≤ count L z ∧ Blk wr Bb 26 #[.slice Ak (L - k * z) ck] ∧ (k * z < L → Ak = some (ad.add (k * z)) ∧ ck = c - k * z) ∧ Blk wr Bs 3 #[.int .i64 (z : Int)] ∧ J (List.range k) wr)
    (fun i wr => leftB Bb wr)
  case atStart => exact ⟨0, some ad, c, by omega, by simpa using b0, fun _ => ⟨by simp [Addr.add], by simp⟩, s0, hJ0⟩
  case round =>
    clear b0 s0 hJ0
    obtain ⟨k, Ak, ck, hk, b1, hAk, s1, hJs⟩ := hrel
    have hlw := leftB_eq b1
    have c1 := b1.cell 0
    have d1 := s1.cell 0
    by_cases hlt : k * z < L
    · obtain ⟨rfl, rfl⟩ := hAk hlt
      have e1 : (0 : Int) < ((L - k * z : Nat) : Int) := by omega
      have hk1 : k < count L z := (hct.out k).2 hlt
      have hbk := Lib.hid (fun w' (h : Kp wr w') => kb h b1)
      have hsk := Lib.hid (fun w' (h : Kp wr w') => kd h s1)
      obtain ⟨fn, tmps, assign, body, hy, hR⟩ := hYh.out _ k wr hJs (by rw [List.length_range]; exact hk1)
      have hR := Lib.hid hR
      dsimp only [encB, Option.map] at hy
      clear hAk b1 s1
      by_cases hz : z ≤ L - k * z
      · have e2 : (z : Int) ≤ ((L - k * z : Nat) : Int) := by omega
        have e3 : (z : Int) ≤ ((c - k * z : Nat) : Int) := by omega
        have eN : L - (k + 1) * z = L - k * z - z := by rw [Nat.succ_mul]; omega
        have eC : c - (k + 1) * z = c - k * z - z := by rw [Nat.succ_mul]; omega
        rw [Nat.min_eq_left hz] at hy
        gi_wp2
        refine hR.out.mono ?_
        rintro e W3 (⟨rfl, hJ3, hk3⟩ | ⟨rfl, hJx3⟩)
        · have b3 := hbk.out W3 hk3
          have s3 := hsk.out W3 hk3
          have c3 := b3.cell 0
          have d3 := s3.cell 0
          have f3 := b3.frozen 0
          by_cases hcz : c - k * z = z
          · have hcz' : c - k * z - z = 0 := by omega
            gi_wp2
            refine ⟨⟨k + 1, _, _, by omega, by rw [eN]; exact b3.set_ 0 _, fun h => absurd h (by rw [Nat.succ_mul]; omega), s3.far hne _, by rw [List.range_succ]; exact hJh.out _ _ _ hJ3 ((Kb.refl _ _).set 0 _)⟩, ?_⟩
            rw [leftB_eq (b3.set_ 0 _)]
            omega
          · have hcz1 : ¬ c - k * z - z = 0 := by omega
            have hcz2 : ¬ ((c - k * z : Nat) : Int) ≤ (z : Int) := by omega
            gi_wp2
            refine ⟨⟨k + 1, _, _, by omega, by rw [eN]; exact b3.set_ 0 _, fun h => ⟨by rw [Nat.succ_mul, add_of_add], eC.symm⟩, s3.far hne _, by rw [List.range_succ]; exact hJh.out _ _ _ hJ3 ((Kb.refl _ _).set 0 _)⟩, ?_⟩
            rw [leftB_eq (b3.set_ 0 _)]
            omega
        · gi_wp2
          refine bodyPost_ret (results_none rfl _ _ _) rfl ?_
          exact ⟨⟨_, rfl⟩, .inr ⟨_, ⟨k + 1, by omega, List.range_succ.symm⟩, hJx3⟩⟩
      · have e2 : ¬ (z : Int) ≤ ((L - k * z : Nat) : Int) := by omega
        have e3 : ((L - k * z : Nat) : Int) ≤ ((c - k * z : Nat) : Int) := by omega
        have eN : L - (k + 1) * z = 0 := by rw [Nat.succ_mul]; omega
        rw [Nat.min_eq_right (by omega)] at hy
        gi_wp2
        refine hR.out.mono ?_
        rintro e W3 (⟨rfl, hJ3, hk3⟩ | ⟨rfl, hJx3⟩)
        · have b3 := hbk.out W3 hk3
          have s3 := hsk.out W3 hk3
          have c3 := b3.cell 0
          have d3 := s3.cell 0
          have f3 := b3.frozen 0
          by_cases hcz : c - k * z = L - k * z
          · have hcz' : c - k * z - (L - k * z) = 0 := by omega
            gi_wp2
            refine ⟨⟨k + 1, _, _, by omega, by rw [eN]; exact b3.set_ 0 _, fun h => absurd h (by rw [Nat.succ_mul]; omega), s3.far hne _, by rw [List.range_succ]; exact hJh.out _ _ _ hJ3 ((Kb.refl _ _).set 0 _)⟩, ?_⟩
            rw [leftB_eq (b3.set_ 0 _)]
            omega
          · have hcz1 : ¬ c - k * z - (L - k * z) = 0 := by omega
            have hcz2 : ¬ ((c - k * z : Nat) : Int) ≤ ((L - k * z : Nat) : Int) := by omega
            gi_wp2
            refine ⟨⟨k + 1, _, _, by omega, by rw [eN]; exact b3.set_ 0 _, fun h => absurd h (by rw [Nat.succ_mul]; omega), s3.far hne _, by rw [List.range_succ]; exact hJh.out _ _ _ hJ3 ((Kb.refl _ _).set 0 _)⟩, ?_⟩
            rw [leftB_eq (b3.set_ 0 _)]
            omega
        · gi_wp2
          refine bodyPost_ret (results_none rfl _ _ _) rfl ?_
          exact ⟨⟨_, rfl⟩, .inr ⟨_, ⟨k + 1, by omega, List.range_succ.symm⟩, hJx3⟩⟩
    · have hkN : k = count L z := by
        rcases Nat.lt_or_ge k (count L z) with h | h
        · exact absurd ((hct.out k).1 h) hlt
        · omega
      have eL : L - k * z = 0 := by omega
      have e1 : ¬ (0 : Int) < ((L - k * z : Nat) : Int) := by omega
      rw [eL] at c1
      clear hAk b1 s1
      subst hkN
      gi_wp2
      go_end0
      exact ⟨⟨_, rfl⟩, .inl hJs⟩
set_option maxRecDepth 100000 in
set_option maxHeartbeats 1000000 in
theorem blocks1_nil (m : Nat) (l Bb Bs : Nat) (A : Option Addr) (c : Nat) (P : World → Prop) (W : World) (cb : W.cell? ⟨Bb, 0, none⟩ = some (.slice A 0 c)) (h0 : P W) :
    CallsIn Fence.wide m Try.prog 48 #[.func (.yield l) #[] #[], .pointer (some ⟨Bb, 0, none⟩), .pointer (some ⟨Bs, 0, none⟩)] W fun e W' => (∃ v, e = .returned v) ∧ P W' := by
  refine callsIn_of_wp Try.func48 rfl trivial ?_ rfl
  simp only [Try.ntmps48, List.size_toArray, List.length_cons, List.length_nil, Nat.reduceAdd, Nat.reduceSub, Array.replicate_succ, Array.replicate_zero, List.push_toArray, List.append_toArray, List.nil_append, List.cons_append]
  gi_wp2
  gi_loopw [4] (fun i wr => wr = W) (fun i wr => 0)
  case atStart => rfl
  case round =>
    obtain rfl := hrel
    gi_wp2
    go_end0
    exact ⟨⟨_, rfl⟩, h0⟩
theorem count_zero {h : Nat} : count 0 h = 0 := by simp [count]
/-- The iterator's contract. -/
theorem blocks_seq (m : Nat) (hm : 1 ≤ m) (Bb Bs : Nat) (A : Option Addr) (c : Nat) (l : List UInt8) (B z : Nat) (hs : l.length ≤ 1000000) (hc : l.length ≤ c) (hcm : c ≤ maxLen) (h4 : 4 ≤ z) (h64 : z ≤ 64)
    (Kp : World → World → Prop)
    (kb : ∀ {A B : World} {v : Value}, Kp A B → Blk A Bb 26 #[v] → Blk B Bb 26 #[v]) (kd : ∀ {A B : World} {v : Value}, Kp A B → Blk A Bs 3 #[v] → Blk B Bs 3 #[v])
    (W : World) (b0 : Blk W Bb 26 #[.slice A l.length c]) (s0 : Blk W Bs 3 #[.int .i64 (z : Int)]) (hr : RB W B A l) (hne : Bs ≠ Bb) :
    SeqB Fence.wide m Try.prog 48 #[.pointer (some ⟨Bb, 0, none⟩), .pointer (some ⟨Bs, 0, none⟩)] (encB A c l.length z) Bb Kp (fun ys => ys = List.range (count l.length z))
      (fun pre => ∃ k, k ≤ count l.length z ∧ pre = List.range k) (count l.length z) W := fun lp J Jx hJ _ hY h0 => by
  rcases Nat.eq_zero_or_pos l.length with hz | hz
  · rw [hz] at b0 ⊢
    refine (blocks1_nil m lp Bb Bs A c (J []) W (b0.cell 0) h0).mono ?_
    rintro e W' ⟨he, hj⟩
    exact ⟨he, .inl ⟨_, rfl, by rw [count_zero]; exact hj⟩⟩
  · obtain ⟨ad, rfl, _, _⟩ := hr.at_ hz
    exact blocks1_in m hm lp Bb Bs ad c l.length z hs hc hcm hz h4 h64 Kp kb kd J Jx W hJ hY b0 s0 hne h0
set_option maxRecDepth 100000 in
set_option maxHeartbeats 1000000 in
/-- block.blocks: two boxes; the function value captures them. -/
theorem blocks_any (A : Option Addr) (len c : Nat) (z : Int) (n : Nat) (w : World) (hn : w.heap.size = n) :
    Calls Try.prog 28 #[.slice A len c, .int .i64 z] w fun e w' =>
      e = .returned (.func (.func 48) #[] #[.pointer (some ⟨n, 0, none⟩), .pointer (some ⟨n + 1, 0, none⟩)]) ∧ Blk w' n 26 #[.slice A len c] ∧ Blk w' (n + 1) 3 #[.int .i64 z] ∧ Gr w w' ∧ w'.heap.size = n + 2 := by
  subst hn
  have hmf : ∀ (fn : Fn) (first cap : Array Value) (w : World), (Instr.makeFunc fn first cap).run Try.prog w = .ok (.func fn first cap) w := fun _ _ _ _ => rfl
  have h1 := Lib.hid ((Blk.new w 26 #[.slice A len c]).alloc (.cells #[.int .i64 z] 3))
  have h2 := Blk.new (w.alloc (.cells #[.slice A len c] 26)) 3 #[.int .i64 z]
  rw [World.size_alloc] at h2
  replace h2 := Lib.hid h2
  go_enter Try.func28, Try.ntmps28
  go_wp2
  go_ret
  exact ⟨rfl, h1.out, h2.out, ((Gr.refl w).alloc _).alloc _, by simp⟩
end Sg
end Go.Proofs.Ytcibngbgcnnjnaa
namespace Go.Proofs.Ytcibngbgcnnjnaa
open Go Go.RowKit Go.Shelf W
namespace Sg
theorem or_own {E : TypeId} {size base n : Nat} {X Y : World} {v : Value} {xs : List Value} {row : Option Nat} (h : OR E size X base v n xs) (hg : X.grownBy Y row) (hr : ∀ r, row = some r → ∃ o : Obj, X.heap[r]? = some o ∧ o.isCells = false) : OR E size Y base v n xs := by
  refine World.ownsRow.kept h hg ?_
  rcases h.2 with ⟨rfl, _⟩ | ⟨g, cap, cur, rfl, _, hh, _⟩
  · exact .inl rfl
  · refine .inr fun e => ?_
    obtain ⟨o, ho, hc⟩ := hr g e.symm
    rw [hh] at ho
    cases ho
    cases hc
theorem or_kb {E : TypeId} {size base b n : Nat} {X Y : World} {v : Value} {xs : List Value} (h : OR E size X base v n xs) (hk : Kb b X Y) (h2 : b < base) : OR E size Y base v n xs := by
  refine World.ownsRow.kept h hk ?_
  rcases h.2 with ⟨hv, _⟩ | ⟨g', cap, cur, hv, hg, hh, _⟩
  · exact .inl (by rw [hv]; rfl)
  · refine .inr fun e => ?_
    rw [hv] at e
    have : g' = b := Option.some.inj e
    omega
theorem os_kb {E : TypeId} {base b : Nat} {X Y : World} {v : Value} {l : List Sign} (h : OS E X base v l) (hk : Kb b X Y) (h2 : b < base) : OS E Y base v l := by
  refine World.ownsRow.kept h hk ?_
  rcases h.2 with ⟨hv, _⟩ | ⟨g', cap, cur, hv, hg, hh, _⟩
  · exact .inl (by rw [hv]; rfl)
  · refine .inr fun e => ?_
    rw [hv] at e
    have : g' = b := Option.some.inj e
    omega
theorem os_others {E : TypeId} {size base n : Nat} {X Y : World} {v : Value} {xs : List Value} (h : OR E size X base v n xs) (hg : X.grownBy Y v.ownBlock) : KeepsOthers X Y :=
  KeepsOthers.of_grownBy hg (fun j o e ho => by
    rcases h.2 with ⟨hv, _⟩ | ⟨g', cap, cur, hv, _, hh, _⟩
    · rw [hv] at e; cases e
    · rw [hv] at e
      have : g' = j := Option.some.inj e
      subst this
      rw [hh] at ho
      cases ho
      rfl)
theorem wpList_append_rowsG {P : Program} {E : TypeId} {size base n : Nat} {v : Value} {xs : List Value} {w : World} {ops : Array Oper} {rest : List Oper} {o : Oper} {a : Act} {Q : Exit → Act → World → Prop} (hgd : o.guard = none) (s x : Operand) (T : TypeId)
    (ho : o.op = .call { callee := .builtin .append, args := #[s, x], argTypes := #[T, T] }) {bytes : Nat} (ht : P.underlying T = some (.slice E)) (hE : RowType P E size bytes) (hs : a.eval s = v) (hown : OR E size w base v n xs)
    (B : Nat) (A : Option Addr) (m c : Nat) (news : List Value) (hx : a.eval x = .slice A m c) (hr : Reads w B size A m news) (h1 : ∀ u ∈ news, u.oneCell' = true) (hlen : n + m ≤ maxLen) (hby : (n + m) * bytes ≤ 140737488355328) (hbase : base ≤ w.heap.size)
    (L : List Value) (hL : L = xs ++ news) (k : Nat) (hk : k = n + m) (h : ∀ A' c' w', OR E size w' base (.slice A' k c') k L → Below base w w' → KeepsOthers w w' → wpList P ops Q rest (a.put o.dst (.slice A' k c')) w') : wpList P ops Q (o :: rest) a w :=
  wpList_wanted (by simp [Region.wanted, hgd]) fun _ hK => by
    subst hL
    subst hk
    obtain ⟨A', c', w', hrun, h2, h3, h4, _⟩ := run_append_rows (P := P) T o.type ht hE hown B A m c news hr h1 hlen hby hbase
    unfold Oper.wp execOp
    simp only [ho, resolve, invoke, builtin, Sem.run_bind, Sem.run_pure, Result.andThen_ok, List.map_toArray, List.map_cons, List.map_nil, hs, hx, hrun]
    exact hK _ _ (h A' c' w' h2 h3 (os_others hown h4))
theorem wpList_isLoad {P : Program} {w : World} {ops : Array Oper} {rest : List Oper} {o : Oper} {a : Act} {Q : Exit → Act → World → Prop} (T : TypeId) (x : Operand)
    (ho : o.op = .load T x) (h : wpList P ops Q (o :: rest) a w) : wpList P ops Q (o :: rest) a w := h
end Sg
end Go.Proofs.Ytcibngbgcnnjnaa
namespace Go.Proofs.Ytcibngbgcnnjnaa
open Go Go.RowKit W
namespace Bl
set_option maxRecDepth 100000 in
set_option maxHeartbeats 2000000 in
theorem at_any (A : Option Addr) (c : Nat) (l : List UInt8) (size : Int) (k : Nat) (w : World) (hs : l.length ≤ 1000000) (hc : l.length ≤ c) (hr : RB w w.heap.size A l) (hk : k < count l.length (hold size)) :
    Calls Try.prog 17 #[.slice A l.length c, .int .i64 size, .int .i64 (k : Int)] w (Out 5 w (at_ l (hold size) k)) := by
  have hcn := Lib.hid (count_any l.length size w (by omega))
  have hho := Lib.hid (fun w => hold_any size w)
  have hp := hold_pos size
  generalize hold size = h at *
  have hkl := (count_lt (by omega)).1 hk
  have hle := count_le l.length h (by omega)
  obtain ⟨f, hf⟩ : ∃ f, f = k * h := ⟨_, rfl⟩
  have hfi : (k : Int) * (h : Int) = (f : Int) := by rw [hf, Int.natCast_mul]
  rw [← hf] at hkl
  have hat : at_ l h k = (l.drop f).take h := by unfold at_; rw [hf]
  have hcf : ¬ c = f := by omega
  have hrf := hr.drop (k := f) (by omega) hc
  rw [if_neg hcf] at hrf
  rw [hat]
  have hown0 := Lib.hid (OB.made (E := 5) (base := w.heap.size) w (Nat.le_refl _))
  have g0 := Lib.hid ((Gr.refl w).alloc (.cells #[] 5))
  have i2 : (k : Int) < (count l.length h : Int) := by omega
  clear hr hf hat hk
  by_cases hmin : f + h ≤ l.length
  · have hB : ∃ B, B = (l.drop f).take h ∧ B.length = h := ⟨_, rfl, by simp; omega⟩
    obtain ⟨B, hB, hBl⟩ := hB
    have hrd := hrf.take (k := h) (by simp; omega)
    have hm : (f : Int) + (h : Int) ≤ (l.length : Int) := by omega
    have hci : (f : Int) + (h : Int) ≤ (c : Int) := by omega
    rw [← hB] at hrd ⊢
    have hrd' := Lib.hid (hrd.alloc (Nat.le_refl _) (.cells #[] 5))
    clear hrd hB hrf
    replace hBl := Lib.hid hBl
    go_enter Try.func17, Try.ntmps17
    go_wp2_with fail
    go_at_call 7
    refine hcn.out.mono ?_
    rintro e w1 ⟨rfl, rfl⟩
    clear hcn
    go_wp2_with fail
    go_at_call 27
    refine (hho.out _).mono ?_
    rintro e w1 ⟨rfl, rfl⟩
    go_wp2_with fail
    go_at_call 27
    refine (hho.out _).mono ?_
    rintro e w1 ⟨rfl, rfl⟩
    clear hho
    go_wp2_with (first
      | ((with_reducible refine wpList_isApp (.tmp 22) (.tmp 32) 26 rfl ?_); refine wpList_append_bytes _ rfl (.tmp 22) (.tmp 32) 26 rfl w1.heap.size 5 Try.underlying26 byteType _ [] rfl (by exact hown0.out) w1.heap.size _ _ _ B rfl ?hn ?hr ?hl ?hb B rfl B.length rfl ?hgo; (case hn => first | exact hBl.out.symm | (have := hBl.out; omega)); (case hr => exact hrd'.out); (case hl => (simp only [List.length_nil]; have := hBl.out; omega)); (case hb => simp); intro A9 c9 w9 o9 b9))
    go_ret
    exact ⟨A9, c9, rfl, o9, Below.trans g0.out b9⟩
  · have hB : ∃ B, B = (l.drop f).take h ∧ B.length = l.length - f := ⟨_, rfl, by simp; omega⟩
    obtain ⟨B, hB, hBl⟩ := hB
    have hrd := hrf
    rw [show l.drop f = (l.drop f).take h from (List.take_of_length_le (by simp; omega)).symm] at hrd
    have hm : ¬ (f : Int) + (h : Int) ≤ (l.length : Int) := by omega
    rw [← hB] at hrd ⊢
    have hrd' := Lib.hid (hrd.alloc (Nat.le_refl _) (.cells #[] 5))
    clear hrd hB hrf
    replace hBl := Lib.hid hBl
    go_enter Try.func17, Try.ntmps17
    go_wp2_with fail
    go_at_call 7
    refine hcn.out.mono ?_
    rintro e w1 ⟨rfl, rfl⟩
    clear hcn
    go_wp2_with fail
    go_at_call 27
    refine (hho.out _).mono ?_
    rintro e w1 ⟨rfl, rfl⟩
    go_wp2_with fail
    go_at_call 27
    refine (hho.out _).mono ?_
    rintro e w1 ⟨rfl, rfl⟩
    clear hho
    go_wp2_with (first
      | ((with_reducible refine wpList_isApp (.tmp 22) (.tmp 32) 26 rfl ?_); refine wpList_append_bytes _ rfl (.tmp 22) (.tmp 32) 26 rfl w1.heap.size 5 Try.underlying26 byteType _ [] rfl (by exact hown0.out) w1.heap.size _ _ _ B rfl ?hn2 ?hr2 ?hl2 ?hb2 B rfl B.length rfl ?hgo2; (case hn2 => first | exact hBl.out.symm | (have := hBl.out; omega)); (case hr2 => exact hrd'.out); (case hl2 => (simp only [List.length_nil]; have := hBl.out; omega)); (case hb2 => simp); intro A9 c9 w9 o9 b9))
    go_ret
    exact ⟨A9, c9, rfl, o9, Below.trans g0.out b9⟩
end Bl
end Go.Proofs.Ytcibngbgcnnjnaa
namespace Go.Proofs.Ytcibngbgcnnjnaa
open Go Go.RowKit Go.Shelf W Bl
attribute [local go_sem] Oper.semAt_some
namespace Sg
abbrev sigZ : Array Value := #[.int .i64 0, .slice none 0 0, .int .i64 0, .int .u32 0, .int .u64 0, .int .u64 0]
/-- The signature in block g. -/
def SgAt (g base : Nat) (z : Int) (bs : List Sign) (t : Int) (x : Sign) (W : World) : Prop :=
  ∃ A c, Blk W g 35 (sigC z (.slice A bs.length c) t x) ∧ OS 33 W base (.slice A bs.length c) bs
def SgI (rc g : Nat) (w : World) (base : Nat) (l : List UInt8) (h : Nat) (pre : List Nat) (W : World) : Prop :=
  (∀ y ∈ pre, (at_ l h y).length = h) ∧ Blk W rc 35 sigZ ∧ SgAt g base (h : Int) (pre.map fun k => sign (at_ l h k)) 0 zero W ∧ Below w.heap.size w W ∧ base ≤ W.heap.size
def SgX (rc g : Nat) (w : World) (base : Nat) (l : List UInt8) (h : Nat) (c : Code) (pre : List Nat) (W : World) : Prop :=
  c = .exit 0 ∧ ∃ ini last, pre = ini ++ [last] ∧ (∀ y ∈ ini, (at_ l h y).length = h) ∧ (at_ l h last).length < h ∧ Blk W rc 35 sigZ ∧
    SgAt g base (h : Int) (ini.map fun k => sign (at_ l h k)) ((at_ l h last).length : Int) (sign (at_ l h last)) W ∧ Below w.heap.size w W ∧ base ≤ W.heap.size
theorem sgAt_own {g base : Nat} {z : Int} {bs : List Sign} {t : Int} {x : Sign} {X Y : World} {row : Option Nat} (h : SgAt g base z bs t x X) (hg : X.grownBy Y row) (hr : ∀ r, row = some r → ∃ o : Obj, X.heap[r]? = some o ∧ o.isCells = false) : SgAt g base z bs t x Y := by
  obtain ⟨A, c, h1, h2⟩ := h
  refine ⟨A, c, h1.grown hg (fun e => ?_), or_own h2 hg hr⟩
  obtain ⟨o, ho, hc⟩ := hr g e.symm
  have h1' : X.heap[g]? = some (.cells _ _ (0, 0)) := h1
  rw [h1'] at ho
  cases ho
  cases hc
theorem sgAt_kb {g base b : Nat} {z : Int} {bs : List Sign} {t : Int} {x : Sign} {X Y : World} (h : SgAt g base z bs t x X) (hk : Kb b X Y) (h1 : b ≠ g) (h2 : b < base) : SgAt g base z bs t x Y := by
  obtain ⟨A, c, e1, e2⟩ := h
  refine ⟨A, c, hk.blk e1 (fun e => h1 e.symm), World.ownsRow.kept e2 hk ?_⟩
  rcases e2.2 with ⟨hv, _⟩ | ⟨g', cap, cur, hv, hg, hh, _⟩
  · exact .inl (by rw [hv]; rfl)
  · refine .inr fun e => ?_
    rw [hv] at e
    have : g' = b := Option.some.inj e
    omega
theorem at_len_min (l : List UInt8) (h k : Nat) : (at_ l h k).length = min h (l.length - k * h) := by simp [at_]
theorem rb_at {W : World} {B : Nat} {A : Option Addr} {l : List UInt8} {c h k : Nat} (hr : RB W B A l) (hc : l.length ≤ c) : RB W B (A.map (·.add (k * h))) (at_ l h k) := by
  unfold at_
  rcases Nat.lt_or_ge (k * h) l.length with hk | hk
  · have := hr.drop (k := k * h) (cap := c) (by omega) hc
    rw [if_neg (by omega)] at this
    by_cases hm : h ≤ l.length - k * h
    · exact this.take (by rw [List.length_drop]; omega)
    · rw [List.take_of_length_le (by rw [List.length_drop]; omega)]
      exact this
  · rw [List.drop_eq_nil_of_le hk, List.take_nil]
    exact RB.nil_
theorem full_of {l : List UInt8} {h : Nat} (hh : 0 < h) (hall : ∀ y ∈ List.range (count l.length h), (at_ l h y).length = h) : count l.length h = l.length / h ∧ l.length % h = 0 := by
  by_cases hm : 0 < l.length % h
  · have h1 : l.length / h < count l.length h := by unfold count; rw [if_pos hm]; omega
    have h2 := hall _ (List.mem_range.2 h1)
    rw [at_len_min] at h2
    have h3 := Nat.div_add_mod l.length h
    rw [Nat.mul_comm] at h3
    have h4 := Nat.mod_lt l.length hh
    omega
  · refine ⟨by unfold count; rw [if_neg hm]; rfl, by omega⟩
theorem last_of {l : List UInt8} {h j : Nat} (hh : 0 < h) (hj : j ≤ count l.length h) {ini : List Nat} {last : Nat} (he : ini ++ [last] = List.range j) (hall : ∀ y ∈ ini, (at_ l h y).length = h) (hlt : (at_ l h last).length < h) :
    ini = List.range (l.length / h) ∧ last = l.length / h ∧ 0 < l.length % h := by
  cases j with
  | zero => simp at he
  | succ j =>
    rw [List.range_succ] at he
    obtain ⟨rfl, h2⟩ := List.append_inj' he rfl
    obtain rfl : last = j := by simpa using h2
    have h3 := (count_lt (n := l.length) hh).1 (show last < count l.length h by omega)
    have h4 := Nat.div_add_mod l.length h
    rw [Nat.mul_comm] at h4
    have h5 := Nat.mod_lt l.length hh
    rw [at_len_min] at hlt
    have e : last = l.length / h := by
      rcases Nat.lt_trichotomy last (l.length / h) with h6 | h6 | h6
      · have h7 : (last + 1) * h ≤ l.length / h * h := Nat.mul_le_mul_right _ h6
        rw [Nat.succ_mul] at h7
        omega
      · exact h6
      · have h7 : (l.length / h + 1) * h ≤ last * h := Nat.mul_le_mul_right _ h6
        rw [Nat.succ_mul] at h7
        omega
    refine ⟨by rw [e], e, ?_⟩
    rw [← e] at h4
    omega
theorem at_last {l : List UInt8} {h : Nat} (hm : 0 < l.length % h) (hh : 0 < h) : (at_ l h (l.length / h)).length = l.length % h := by
  rw [at_len_min]
  have h4 := Nat.div_add_mod l.length h
  rw [Nat.mul_comm] at h4
  have h5 := Nat.mod_lt l.length hh
  omega
theorem sgI_own (rc g : Nat) (w : World) (base : Nat) (l : List UInt8) (h B : Nat) (hB : w.heap.size ≤ B) : OwnFrom B (SgI rc g w base l h) := fun s X Y row hs hg hr =>
  ⟨hs.1, blk_own (fun (_ : List Nat) => sigZ) B s X Y row hs.2.1 hg hr, sgAt_own hs.2.2.1 hg (fun r e => (hr r e).2), ownFrom_below (β := List Nat) (Nat.le_refl _) hB s X Y row hs.2.2.2.1 hg hr, Nat.le_trans hs.2.2.2.2 hg.size⟩
theorem sgX_own (rc g : Nat) (w : World) (base : Nat) (l : List UInt8) (h B : Nat) (hB : w.heap.size ≤ B) (c : Code) : OwnFrom B (SgX rc g w base l h c) := fun s X Y row hs hg hr => by
  obtain ⟨hc, ini, last, e1, e2, e3, e4, e5, e6, e7⟩ := hs
  exact ⟨hc, ini, last, e1, e2, e3, blk_own (fun (_ : List Nat) => sigZ) B s X Y row e4 hg hr, sgAt_own e5 hg (fun r e => (hr r e).2), ownFrom_below (β := List Nat) (Nat.le_refl _) hB s X Y row e6 hg hr, Nat.le_trans e7 hg.size⟩
theorem below_kb {w X Y : World} {b : Nat} (h : Below w.heap.size w X) (k : Kb b X Y) (hb : w.heap.size ≤ b) : Below w.heap.size w Y :=
  ⟨k.os.trans h.os, k.tape.trans h.tape, k.output.trans h.output, Nat.le_trans h.size k.size, fun i hi => (World.grownBy.block k i (Nat.lt_of_lt_of_le hi h.size) (fun e => by cases e; omega)).trans (h.block i hi)⟩
theorem sgI_bears (rc g : Nat) (w : World) (base : Nat) (l : List UInt8) (h b : Nat) (h1 : rc ≠ b) (h2 : g ≠ b) (h3 : b < base) (h4 : w.heap.size ≤ b) : Bears b (SgI rc g w base l h) := fun s X Y hs k =>
  ⟨hs.1, k.blk hs.2.1 h1, sgAt_kb hs.2.2.1 k (Ne.symm h2) h3, below_kb hs.2.2.2.1 k h4, Nat.le_trans hs.2.2.2.2 k.size⟩
theorem sgX_bears (rc g : Nat) (w : World) (base : Nat) (l : List UInt8) (h b : Nat) (h1 : rc ≠ b) (h2 : g ≠ b) (h3 : b < base) (h4 : w.heap.size ≤ b) (c : Code) : Bears b (SgX rc g w base l h c) := fun s X Y hs k => by
  obtain ⟨hc, ini, last, e1, e2, e3, e4, e5, e6, e7⟩ := hs
  exact ⟨hc, ini, last, e1, e2, e3, k.blk e4 h1, sgAt_kb e5 k (Ne.symm h2) h3, below_kb e6 k h4, Nat.le_trans e7 k.size⟩
/-- Blocks b and b + 1 lie as they lay. -/
def Two (b : Nat) (X Y : World) : Prop := Y.heap[b]? = X.heap[b]? ∧ Y.heap[b + 1]? = X.heap[b + 1]?
theorem Two.trans {b : Nat} {X Y Z : World} (h : Two b X Y) (k : Two b Y Z) : Two b X Z := ⟨k.1.trans h.1, k.2.trans h.2⟩
theorem Two.putObj {b : Nat} (X : World) (l : Nat) (o : Obj) (h : b + 2 ≤ l) : Two b X (X.putObj l o) := ⟨World.putObj_heap_other (by omega), World.putObj_heap_other (by omega)⟩
set_option maxRecDepth 100000 in
set_option maxHeartbeats 4000000 in
theorem of_any (A : Option Addr) (c : Nat) (l : List UInt8) (size : Int) (w : World) (hs : l.length ≤ 1000000) (hc : l.length ≤ c) (hcm : c ≤ maxLen) (hr : RB w w.heap.size A l) :
    Calls Try.prog 10 #[.slice A l.length c, .int .i64 size] w fun e w' => ∃ A' c', e = .returned (sigV (sigOf l size) A' c') ∧ OS 33 w' w.heap.size (.slice A' (sigOf l size).bs.length c') (sigOf l size).bs ∧ Gr w w' := by
  refine (callsIn_wide (n := 5)).1 ?_
  have hrh := Lib.hid hr
  have hho := Lib.hid (fun w => hold_any size w)
  obtain ⟨s, hsig⟩ : ∃ s, sigOf l size = s := ⟨_, rfl⟩
  rw [hsig]
  unfold sigOf at hsig
  have hh := hold_pos size
  generalize hold size = h at *
  replace hsig := Lib.hid hsig
  clear hr
  refine callsIn_of_wp_marks Try.func10 rfl trivial ?_ rfl
  simp only [Try.ntmps10, List.size_toArray, List.length_cons, List.length_nil, Nat.reduceAdd, Nat.reduceSub, Array.replicate_succ, Array.replicate_zero, List.push_toArray, List.append_toArray, List.nil_append, List.cons_append]
  refine wpIn_wide.2 ?_
  have b0 := Lib.hid ((Blk.new w 35 sigZ).alloc (.cells sigZ 35))
  have b1 := Blk.new (w.alloc (.cells sigZ 35)) 35 sigZ
  rw [World.size_alloc] at b1
  replace b1 := Lib.hid b1
  have g0 := Lib.hid (((Gr.refl w).alloc (.cells sigZ 35)).alloc (.cells sigZ 35))
  go_wp2_with fail
  go_at_call 27
  refine (hho.out _).mono ?_
  rintro e w1 ⟨rfl, rfl⟩
  clear hho
  go_wp2_with (first
    | ((with_reducible refine wpList_isStore 35 (.tmp 5) (.tmp 9) rfl ?_); refine wpList_store_blk rfl 35 (.tmp 5) (.tmp 9) rfl (w.heap.size + 1) (sigC (h : Int) (.slice none 0 0) 0 zero) rfl rfl 35 sigZ b1.out (sigInfo _ _ _ _ _ _) rfl (by simp [Value.oneCell']) ?_; intro w2 n2 k2 z2; have x2 := n2.cell 0; have m0 := Lib.hid (k2.blk b0.out (by omega)); have n2' := Lib.hid n2; have G2 := Lib.hid (keep_at g0.out k2 (by omega) (by rw [World.size_alloc, World.size_alloc]; omega)); have z2' : w2.heap.size = w.heap.size + 2 := (by rw [z2, World.size_alloc, World.size_alloc]); clear n2 k2 z2 b0 b1 g0))
  go_at_call 28
  refine (blocks_any A l.length c (h : Int) (w.heap.size + 2) _ z2').mono ?_
  rintro e w3 ⟨rfl, bb, bs, g3, z3⟩
  have hsz := g3.size
  have i0 := blk_more m0.out g3
  have i1 := blk_more n2'.out g3
  have gg := Gr.trans G2.out g3
  have hre := hrh.out.below gg
  clear m0 n2' G2 g3 x2 z2'
  replace i0 := Lib.hid i0
  replace i1 := Lib.hid i1
  replace bb := Lib.hid bb
  replace bs := Lib.hid bs
  replace gg := Lib.hid gg
  replace hre := Lib.hid hre
  go_wp2
  refine (wpIn_wide (n := 5)).1 ?_
  refine wpIn_rangeBox (b := w.heap.size + 2) (by omega) rfl (by omega) (gf := 48) (lb := #[.pointer (some ⟨w.heap.size + 2, 0, none⟩), .pointer (some ⟨w.heap.size + 2 + 1, 0, none⟩)]) rfl trivial (enters_of Try.func48 (by kernel_rfl) rfl)
    (Kp := Two (w.heap.size + 2)) (fun W hW => blocks_seq 4 (by omega) (w.heap.size + 2) (w.heap.size + 2 + 1) A c l w.heap.size h hs hc hcm hh.1 hh.2 (Two (w.heap.size + 2)) (fun k hb => k.1.trans hb) (fun k hb => k.2.trans hb) W (bb.out.below hW (by omega)) (bs.out.below hW (by omega)) (hre.out.below (hW.mono (by omega))) (by omega))
    Two.trans (fun W l o hl => Two.putObj W l o (by omega)) (fun _ => rfl)
    (SgI w.heap.size (w.heap.size + 1) w w3.heap.size l h) (SgX w.heap.size (w.heap.size + 1) w w3.heap.size l h)
    (sgI_own _ _ _ _ _ _ _ (by omega)) (sgX_own _ _ _ _ _ _ _ (by omega))
    (sgI_bears _ _ _ _ _ _ _ (by omega) (by omega) (by omega) (by omega)) (sgX_bears _ _ _ _ _ _ _ (by omega) (by omega) (by omega) (by omega))
    ⟨by simp, i0.out, ⟨none, 0, i1.out, OS.nil_ _ _ _⟩, gg.out, Nat.le_refl _⟩ ?a1 ?assign ?body ?done ?stop
  case assign =>
    intro lp x W K hK
    dsimp only [encB]
    gi_wp2
    exact hK
  case body =>
    rintro lp pre x W ⟨hp, c0, ⟨A1, c1', c1, ho⟩, hB, hWs⟩ hlt
    have hcl := count_le l.length h (by omega)
    clear bb bs i0 i1 gg
    have hlm := at_len_min l h x
    have hle : (at_ l h x).length ≤ h := by omega
    have hrx : RB W W.heap.size (A.map (·.add (x * h))) (at_ l h x) := (rb_at (k := x) (h := h) (hrh.out.below hB) hc).more hB.size
    have hcx : (at_ l h x).length ≤ c - x * h := by omega
    rw [← hlm]
    have hsg := Lib.hid (fun W (hr : RB W W.heap.size (A.map (·.add (x * h))) (at_ l h x)) => signOf_any (A.map (·.add (x * h))) (c - x * h) (at_ l h x) W (by omega) hcx hr)
    replace hrx := Lib.hid hrx
    replace hp := Lib.hid hp
    have d0 := c1.cell 0
    have d1 := c1.cell 1
    have hWb : w3.heap.size ≤ W.heap.size := hWs
    replace c0 := Lib.hid c0
    replace c1 := Lib.hid c1
    replace ho := Lib.hid ho
    replace hB := Lib.hid hB
    by_cases hq : (at_ l h x).length < h
    · have hqi : ((at_ l h x).length : Int) < (h : Int) := by omega
      have hqH := Lib.hid hq
      obtain ⟨b, hb⟩ : ∃ b, at_ l h x = b := ⟨_, rfl⟩
      rw [hb] at hsg hrx hqi hqH ⊢
      replace hb := Lib.hid hb
      clear hlm hle hcx hq
      gi_wp2_with fail
      refine ⟨trivial, ?_⟩
      gi_at_call 12
      refine (CallsIn.inRound lp (callsIn_wide.2 (hsg.out W hrx.out))).mono ?_
      rintro e W2 ⟨rfl, g2⟩
      have n1 := blk_more c1.out g2
      have y2 := n1.cell 2
      have y3 := n1.cell 3
      have y4 := n1.cell 4
      have y5 := n1.cell 5
      have f2 := n1.frozen 2
      have f3 := n1.frozen 3
      have f4 := n1.frozen 4
      have f5 := n1.frozen 5
      have m1 := Lib.hid n1
      have G2 := Lib.hid g2
      clear hsg d0 d1 n1 g2
      gi_wp2
      have k5 := (((((Kb.refl (w.heap.size + 1) W2).set 2 (.int .i64 (b.length : Int))).set 3 (.int .u32 (n32 (sign b).1))).set 4 (.int .u64 (n64 (sign b).2.1))).set 5 (.int .u64 (n64 (sign b).2.2)))
      have m5 := (((m1.out.set_ 2 (.int .i64 (b.length : Int))).set_ 3 (.int .u32 (n32 (sign b).1))).set_ 4 (.int .u64 (n64 (sign b).2.1))).set_ 5 (.int .u64 (n64 (sign b).2.2))
      refine ⟨(gr_from G2.out _).trans ((((KeepsOthers.setCell _ _ _).trans (KeepsOthers.setCell _ _ _)).trans ((KeepsOthers.setCell _ _ _).trans (KeepsOthers.setCell _ _ _))).from _), rfl, pre, x, rfl, hp.out, by rw [hb.out]; exact hqH.out, k5.blk (blk_more c0.out G2.out) (by omega), ?_, below_kb (Below.trans hB.out (Below.mono G2.out hB.out.size)) k5 (by omega), Nat.le_trans (Nat.le_trans hWb (Below.size G2.out)) k5.size⟩
      rw [hb.out]
      exact ⟨A1, c1', m5, os_kb (OS.below ho.out G2.out) k5 (by omega)⟩
    · have hqe : (at_ l h x).length = h := by omega
      have hqi : ¬ ((at_ l h x).length : Int) < (h : Int) := by omega
      have hqH := Lib.hid hqe
      obtain ⟨b, hb⟩ : ∃ b, at_ l h x = b := ⟨_, rfl⟩
      rw [hb] at hsg hrx hqi hqH ⊢
      replace hb := Lib.hid hb
      obtain ⟨n, hn⟩ : ∃ n, (pre.map fun k => sign (at_ l h k)).length = n := ⟨_, rfl⟩
      have hpl : n ≤ 1000000 := by rw [← hn, List.length_map]; omega
      rw [hn] at d1 c1 ho
      replace hn := Lib.hid hn
      clear hlm hle hcx hq hqe
      gi_wp2
      refine region_growIn (by kernel_rfl) (by kernel_rfl) (by kernel_rfl) (fun ⟨_, _, h⟩ => h) ?_
      refine GW.p1 (.pointer (some ⟨w.heap.size + 1, 1, none⟩)) rfl trivial (kn0 (t := 5) (c := .pointer (some ⟨w.heap.size + 1, 0, none⟩)) (by kernel_rfl) rfl) (fun ρ w' hρ hg => by simp [execOp, hρ, go_sem]) ?_
      refine GW.p1 ((Value.slice A1 n c1')) rfl trivial (kn (t := 26) (j := 0) (by kernel_rfl)) (fun ρ w' hρ hg => by have h0 := (hg.cell (p := ⟨w.heap.size + 1, 1, none⟩) (show w.heap.size + 1 < W.heap.size by omega)).trans d1; simp [execOp, hρ, go_sem, h0]) ?_
      refine GW.mv rfl trivial (.inl rfl) (kn0 (t := 6) (c := .slice (A.map (·.add (x * h))) b.length (c - x * h)) (by kernel_rfl) rfl) (eqv_lasts _) ?_
      refine GW.call1 (eqv (sV (sign b))) rfl trivial rfl Try.func12 (by kernel_rfl) (by kernel_rfl) (eqv_lasts _) (kn (t := 28) (j := 2) (by kernel_rfl)) (fun v w' hg hv => ?_) ?_
      · obtain rfl : v = _ := hv
        refine (hsg.out w' ((hrx.out.below hg).more hg.size)).mono ?_
        rintro e w2 ⟨rfl, hg2⟩
        exact ⟨_, rfl, rfl, hg2⟩
      refine GW.row1 (E := 33) #[.int .u32 (n32 (sign b).1), .int .u64 (n64 (sign b).2.1), .int .u64 (n64 (sign b).2.2)] rfl rfl trivial rfl (kn (t := 29) (j := 3) (by kernel_rfl)) (fun w => by kernel_rfl) ?_
      refine GW.tailT (m := 5) (by simp) (by kernel_rfl) (by kernel_rfl) (fun w' hg => ?_)
      intro v0 _ v1 h1 v2 _ v3 _ v4 h4
      obtain rfl : v1 = ((Value.slice A1 n c1')) := h1
      simp only [GFin, List.take_succ_cons, List.take_zero, List.drop_succ_cons, List.drop_zero, Act.put, List.setIfInBounds_toArray, List.set_cons_succ, List.set_cons_zero]
      obtain ⟨A4, c4, rfl, hr4⟩ := h4
      have n1 := blk_more c1.out hg
      have y1 : w'.cell? ⟨w.heap.size + 1, 1, none⟩ = some (.slice A1 n c1') := n1.cell 1
      have ho2 := Lib.hid (OS.below ho.out hg)
      have m1 := Lib.hid n1
      have G2 := Lib.hid hg
      have hbase : w3.heap.size ≤ w'.heap.size := Nat.le_trans hWb (Below.size hg)
      replace hr4 := Lib.hid hr4
      clear hsg d0 d1 n1 hg
      go_wp2_with (first
        | ((with_reducible refine wpList_isApp (.tmp 27) (.tmp 30) 27 rfl ?_); refine wpList_append_rowsG rfl (.tmp 27) (.tmp 30) 27 rfl Try.underlying27 signRow rfl (by have := ho2.out; unfold OS at this; rw [hn.out] at this; exact this) w'.heap.size A4 1 c4 (scs [sign b]) rfl hr4.out (scs_one_cell _) (by unfold maxLen; omega) (by omega) hbase (scs ((pre.map fun k => sign (at_ l h k)) ++ [sign b])) (scs_append _ _) (n + 1) rfl ?_; intro A9 c9 w9 o9 b9 k9; have m9 := Lib.hid (m1.out.below b9 (by omega)); have f9 := m9.out.frozen 1; have y9 := m9.out.cell 1; replace o9 := Lib.hid o9; replace b9 := Lib.hid b9; replace k9 := Lib.hid k9; clear ho2 y1))
      have hL : ((pre.map fun k => sign (at_ l h k)) ++ [sign b]).length = n + 1 := by rw [List.length_append, hn.out]; rfl
      have o9' : OS 33 w9 w3.heap.size (.slice A9 ((pre.map fun k => sign (at_ l h k)) ++ [sign b]).length c9) ((pre.map fun k => sign (at_ l h k)) ++ [sign b]) := by unfold OS; rw [hL]; exact o9.out
      have k5 := (Kb.refl (w.heap.size + 1) w9).set 1 (.slice A9 (n + 1) c9)
      have hB9 : Below w.heap.size w w9 := Below.trans (Below.trans hB.out (Below.mono G2.out hB.out.size)) (Below.mono b9.out (by omega))
      have hz9 := (Below.size b9.out)
      have m10 := m9.out.set_ 1 (.slice A9 (n + 1) c9)
      have hm : (pre ++ [x]).map (fun k => sign (at_ l h k)) = (pre.map fun k => sign (at_ l h k)) ++ [sign b] := by rw [List.map_append, ← hb.out]; rfl
      have heq : ∀ i, i < w3.heap.size → i ≠ w.heap.size + 1 → (w9.setCell ⟨w.heap.size + 1, 1, none⟩ (.slice A9 (n + 1) c9)).heap[i]? = W.heap[i]? := fun i h1 h2 =>
        ((Below.heap_setCell _ _ _ _ h2).trans (Below.block b9.out i h1)).trans (Below.block G2.out i (by omega))
      rw [← z3]
      refine ⟨(gr_from G2.out _).trans ((k9.out.trans (KeepsOthers.setCell _ _ _)).from _), ⟨heq _ (by omega) (by omega), heq _ (by omega) (by omega)⟩, ?_, (heq _ (by omega) (by omega)).trans c0.out, ⟨A9, c9, ?_, ?_⟩, below_kb hB9 k5 (by omega), by rw [World.size_setCell]; omega⟩
      · intro y hy
        rcases List.mem_append.1 hy with hy | hy
        · exact hp.out y hy
        · obtain rfl : y = x := by simpa using hy
          rw [hb.out]
          exact hqH.out
      · rw [hm, hL]
        exact m10
      · rw [hm]
        exact os_kb o9' k5 (by omega)
  case done =>
    rintro D ys W hD rfl ⟨hp, c0, ⟨A1, c1', c1, ho⟩, hB, hWs⟩ hK
    obtain ⟨hcn, hmod⟩ := full_of (by omega) hp
    rw [hcn] at c1 ho
    have e1 : ((List.range (l.length / h)).map fun k => sign (at_ l h k)) = full l h := rfl
    have e2 : lastOf l h = zero := by unfold lastOf; rw [if_neg (by omega)]
    rw [e1] at c1 ho
    rw [e2, hmod] at hsig
    obtain ⟨bl, hbl⟩ : ∃ bl, full l h = bl := ⟨_, rfl⟩
    rw [hbl] at c1 ho hsig
    obtain rfl : _ = s := hsig.out
    clear hbl e1 e2 hcn hsig
    have hKd : Hid (W.heap[D]? = some (.deferred (some []))) := Lib.hid hK
    have hDW : D < W.heap.size := (Array.getElem?_eq_some_iff.1 hK).1
    have hDr : D ≠ w.heap.size := by omega
    replace c0 := Lib.hid c0
    replace c1 := Lib.hid c1
    replace ho := Lib.hid ho
    replace hB := Lib.hid hB
    clear bb bs i0 i1 gg hre hrh hp hK
    rename_i hk
    refine hk _ _ ?_
    clear hk
    go_wp2_with (first
      | ((with_reducible refine wpList_isLoad 35 (.tmp 5) rfl ?_); refine wpList_load_row rfl 35 (.tmp 5) rfl (w.heap.size + 1) rfl 35 _ (0, 0) _ c1.out Try.underlying35 rfl (sigInfo _ _ _ _ _ _) ?_)
      | ((with_reducible refine wpList_isStore 35 (.tmp 4) (.tmp 33) rfl ?_); refine wpList_store_blk rfl 35 (.tmp 4) (.tmp 33) rfl w.heap.size _ rfl rfl 35 sigZ c0.out (sigInfo _ _ _ _ _ _) rfl (by simp [Value.oneCell']) ?_; intro w9 n9 k9 z9; have hKd9 := Lib.hid (((World.grownBy.block k9 D hDW (fun e => hDr (Option.some.inj e))).trans hKd.out)); replace n9 := Lib.hid n9; replace k9 := Lib.hid k9; replace z9 := Lib.hid z9))
    refine ⟨by simp, .inl ⟨_, _, rfl, run_takeDeferred hKd9.out, ?_⟩⟩
    have k0' : Blk (w9.putObj D (.deferred none)) w.heap.size 35 _ := n9.out.grown (grownBy_putObj' _ D (.deferred none)) (fun e => hDr (Option.some.inj e).symm)
    refine ⟨_, results_cell_row Try.results10 _ _ w.heap.size 35 _ (0, 0) _ rfl k0' Try.underlying35 rfl (sigInfo _ _ _ _ _ _), A1, c1', rfl, OR.base_le (or_own (os_kb ho.out k9.out (by omega)) (grownBy_putObj' _ D (.deferred none)) (fun r e => by cases e; exact ⟨_, hKd9.out, rfl⟩)) (by omega), (below_kb hB.out k9.out (Nat.le_refl _)).trans (belowK_b (w := w) (Nat.le_refl _) _ D _ _ (by omega) hKd9.out rfl rfl)⟩
  case stop =>
    rintro D cc pre W hD ⟨j, hj, hpre⟩ ⟨rfl, ini, last, e1, e2, e3, c0, ⟨A1, c1', c1, ho⟩, hB, hWs⟩ hK
    obtain ⟨hini, hlast, hmod⟩ := last_of (by omega) hj (e1.symm.trans hpre) e2 e3
    subst hini hlast
    clear hj hpre e1 e2 e3
    have e1 : ((List.range (l.length / h)).map fun k => sign (at_ l h k)) = full l h := rfl
    have e2 : lastOf l h = sign (at_ l h (l.length / h)) := by unfold lastOf; rw [if_pos hmod]
    rw [e1, at_last hmod (by omega)] at c1
    rw [e1] at ho
    rw [e2] at hsig
    obtain ⟨bl, hbl⟩ : ∃ bl, full l h = bl := ⟨_, rfl⟩
    rw [hbl] at c1 ho hsig
    obtain ⟨x, hx⟩ : ∃ x, sign (at_ l h (l.length / h)) = x := ⟨_, rfl⟩
    rw [hx] at c1 hsig
    obtain ⟨t, ht⟩ : ∃ t, l.length % h = t := ⟨_, rfl⟩
    rw [ht] at c1 hsig
    obtain rfl : _ = s := hsig.out
    clear hbl hx ht e1 e2 hmod hsig
    have hKd : Hid (W.heap[D]? = some (.deferred (some []))) := Lib.hid hK
    have hDW : D < W.heap.size := (Array.getElem?_eq_some_iff.1 hK).1
    have hDr : D ≠ w.heap.size := by omega
    replace c0 := Lib.hid c0
    replace c1 := Lib.hid c1
    replace ho := Lib.hid ho
    replace hB := Lib.hid hB
    clear bb bs i0 i1 gg hre hrh hK
    refine wpIn_wide.2 ?_
    go_wp2_with (first
      | ((with_reducible refine wpList_isLoad 35 (.tmp 5) rfl ?_); refine wpList_load_row rfl 35 (.tmp 5) rfl (w.heap.size + 1) rfl 35 _ (0, 0) _ c1.out Try.underlying35 rfl (sigInfo _ _ _ _ _ _) ?_)
      | ((with_reducible refine wpList_isStore 35 (.tmp 4) (.tmp 33) rfl ?_); refine wpList_store_blk rfl 35 (.tmp 4) (.tmp 33) rfl w.heap.size _ rfl rfl 35 sigZ c0.out (sigInfo _ _ _ _ _ _) rfl (by simp [Value.oneCell']) ?_; intro w9 n9 k9 z9; have hKd9 := Lib.hid (((World.grownBy.block k9 D hDW (fun e => hDr (Option.some.inj e))).trans hKd.out)); replace n9 := Lib.hid n9; replace k9 := Lib.hid k9; replace z9 := Lib.hid z9))
    refine ⟨by simp, .inl ⟨_, _, rfl, run_takeDeferred hKd9.out, ?_⟩⟩
    have k0' : Blk (w9.putObj D (.deferred none)) w.heap.size 35 _ := n9.out.grown (grownBy_putObj' _ D (.deferred none)) (fun e => hDr (Option.some.inj e).symm)
    refine ⟨_, results_cell_row Try.results10 _ _ w.heap.size 35 _ (0, 0) _ rfl k0' Try.underlying35 rfl (sigInfo _ _ _ _ _ _), A1, c1', rfl, OR.base_le (or_own (os_kb ho.out k9.out (by omega)) (grownBy_putObj' _ D (.deferred none)) (fun r e => by cases e; exact ⟨_, hKd9.out, rfl⟩)) (by omega), (below_kb hB.out k9.out (Nat.le_refl _)).trans (belowK_b (w := w) (Nat.le_refl _) _ D _ _ (by omega) hKd9.out rfl rfl)⟩
end Sg
end Go.Proofs.Ytcibngbgcnnjnaa
namespace Go.Proofs.Ytcibngbgcnnjnaa
open Go Go.RowKit W Bl Vint
namespace Sg
theorem signB_le (x : Sign) : (signB x).length ≤ 26 := by
  have := num_length 9 x.1.toNat (Nat.lt_of_lt_of_le x.1.toNat_lt (by decide))
  simp only [signB, sum, be8, List.length_append, List.length_map, List.length_range]
  omega
theorem word_nat (a : UInt32) : (a.toUInt64).toNat = a.toNat := by simp
set_option maxRecDepth 100000 in
set_option maxHeartbeats 4000000 in
theorem sput_any (A : Option Addr) (c : Nat) (l : List UInt8) (x : Sign) (w : World) (hs : l.length ≤ 1000000000000) (hc : l.length ≤ c) (hcm : c ≤ maxLen) (hr : RB w w.heap.size A l) :
    Calls Try.prog 44 #[.slice A l.length c, sV x] w (Out 5 w (l ++ signB x)) := by
  have bx := Lib.hid (Blk.new w 33 #[.int .u32 (n32 x.1), .int .u64 (n64 x.2.1), .int .u64 (n64 x.2.2)])
  have g0 := Lib.hid ((Gr.refl w).alloc (.cells #[.int .u32 (n32 x.1), .int .u64 (n64 x.2.1), .int .u64 (n64 x.2.2)] 33))
  have r0 := Lib.hid ((hr.alloc (Nat.le_refl _) (.cells #[.int .u32 (n32 x.1), .int .u64 (n64 x.2.1), .int .u64 (n64 x.2.2)] 33)).more (by rw [World.size_alloc]; omega) : RB (w.alloc (.cells #[.int .u32 (n32 x.1), .int .u64 (n64 x.2.1), .int .u64 (n64 x.2.2)] 33)) (w.alloc (.cells #[.int .u32 (n32 x.1), .int .u64 (n64 x.2.1), .int .u64 (n64 x.2.2)] 33)).heap.size A l)
  have hnl := num_length 9 x.1.toNat (Nat.lt_of_lt_of_le x.1.toNat_lt (by decide))
  clear hr
  go_enter Try.func44, Try.ntmps44
  go_wp2
  refine region_grow (by kernel_rfl) (by kernel_rfl) ?_
  refine GW.mv rfl trivial (.inl rfl) (kn0' (t := 0) (c := .slice A l.length c) (by kernel_rfl) rfl (isB_lasts _) (⟨A, c, rfl, hc, hcm, r0.out⟩)) (isB_lasts _) ?_
  refine GW.p1 (.pointer (some ⟨w.heap.size, 0, none⟩)) rfl trivial (kn0 (t := 3) (c := .pointer (some ⟨w.heap.size, 0, none⟩)) (by kernel_rfl) rfl) (fun ρ w' hρ hg => by simp [execOp, hρ, go_sem]) ?_
  refine GW.p1 (.int .u32 (n32 x.1)) rfl trivial (kn (t := 6) (j := 1) (by kernel_rfl)) (fun ρ w' hρ hg => by simp [execOp, hρ, go_sem, (hg.cell (p := ⟨w.heap.size, 0, none⟩) bx.out.lt).trans (bx.out.cell 0)]) ?_
  refine GW.p1 (.int .u64 (n64 x.1.toUInt64)) rfl trivial (kn (t := 7) (j := 2) (by kernel_rfl)) (fun ρ w' hρ hg => by simp [execOp, hρ, go_sem]) ?_
  refine GW.call2 (isB (l ++ num x.1.toNat)) rfl trivial rfl Try.func43 (by kernel_rfl) (by kernel_rfl) (isB_lasts _) (kn (t := 5) (j := 0) (by kernel_rfl)) (kn (t := 8) (j := 3) (by kernel_rfl)) (fun v u w' hg hv hu => ?_) ?_
  · obtain ⟨A1, c1, rfl, hc1, hm1, hr1⟩ := hv
    obtain rfl : u = _ := hu
    refine (vnum_any A1 c1 l x.1.toUInt64 w' (by omega) hr1).mono ?_
    rw [word_nat]
    rintro e w9 ⟨A9, c9, rfl, o9, g9⟩
    exact ⟨_, rfl, isB_of_own o9, g9⟩
  refine GW.p1 (.pointer (some ⟨w.heap.size, 1, none⟩)) rfl trivial (kn0 (t := 3) (c := .pointer (some ⟨w.heap.size, 0, none⟩)) (by kernel_rfl) rfl) (fun ρ w' hρ hg => by simp [execOp, hρ, go_sem]) ?_
  refine GW.p1 (.agg #[.int .u64 (n64 x.2.1), .int .u64 (n64 x.2.2)]) rfl trivial (kn (t := 10) (j := 5) (by kernel_rfl)) (fun ρ w' hρ hg => by simp [execOp, hρ, go_sem, (hg.cell (p := ⟨w.heap.size, 1, none⟩) bx.out.lt).trans (bx.out.cell 1), (hg.cell (p := ⟨w.heap.size, 2, none⟩) bx.out.lt).trans (bx.out.cell 2)]) ?_
  refine GW.call2 (isOR 5 1 w.heap.size ((l ++ num x.1.toNat) ++ sum x.2.1 x.2.2).length (bvs ((l ++ num x.1.toNat) ++ sum x.2.1 x.2.2))) rfl trivial rfl Try.func58 (by kernel_rfl) (by kernel_rfl) (isOR_lasts _ _ _ _ _) (kn (t := 9) (j := 4) (by kernel_rfl)) (kn (t := 11) (j := 6) (by kernel_rfl)) (fun v u w' hg hv hu => ?_) ?_
  · obtain ⟨A1, c1, rfl, hc1, hm1, hr1⟩ := hv
    obtain rfl : u = _ := hu
    refine (vsum_any A1 c1 (l ++ num x.1.toNat) x.2.1 x.2.2 w' (by rw [List.length_append]; omega) hr1).mono ?_
    rintro e w9 ⟨A9, c9, rfl, o9, g9⟩
    exact ⟨_, rfl, ⟨A9, c9, rfl, OB.base_le o9 (Nat.le_trans (by rw [World.size_alloc]; omega) (Below.size hg))⟩, g9⟩
  refine GW.mv rfl trivial (.inr rfl) (kn (t := 12) (j := 7) (by kernel_rfl)) (isOR_lasts _ _ _ _ _) ?_
  refine GW.done (by simp) (by kernel_rfl) (fun w' hg_ => ?_)
  intro v0 _ v1 _ v2 _ v3 _ v4 _ v5 _ v6 _ v7 _ v8 h8
  simp only [GFin, Act.put, List.setIfInBounds_toArray, List.set_cons_succ, List.set_cons_zero]
  obtain ⟨A9, c9, rfl, o9⟩ := h8
  clear r0 bx hnl
  go_wp2
  go_ret
  have e : (l ++ num x.1.toNat) ++ sum x.2.1 x.2.2 = l ++ signB x := by rw [signB, List.append_assoc]
  rw [← e]
  exact ⟨A9, c9, rfl, o9, Gr.trans g0.out hg_⟩
theorem run_eql_sign (T : TypeId) (hT : T = 33 ∨ T = 40) (s t : Sign) (x y : Operand) (w : World) :
    ((do eqGuard .eql T x y (sV s) (sV t); binOp .eql T (sV s) (sV t) : Sem Value).run Try.prog w = .ok (.bool (s == t)) w) ∧ ((do eqGuard .neq T x y (sV s) (sV t); binOp .neq T (sV s) (sV t) : Sem Value).run Try.prog w = .ok (.bool (s != t)) w) := by
  obtain ⟨f, m, d⟩ := s
  obtain ⟨f', m', d'⟩ := t
  constructor <;> rcases hT with rfl | rfl <;> by_cases h1 : f = f' <;> by_cases h2 : m = m' <;> by_cases h3 : d = d' <;> simp [go_sem, h1, h2, h3]
theorem hold_eq (z : Int) : (z == (hold z : Int)) = decide (4 ≤ z ∧ z ≤ 64) := by
  rw [Bool.eq_iff_iff, beq_iff_eq, decide_eq_true_eq]
  unfold hold
  repeat' split
  all_goals omega
theorem ret_bool {a b : Bool} (h : a = b) : Ending.returned (.bool a) = .returned (.bool b) := by rw [h]
set_option maxRecDepth 100000 in
set_option maxHeartbeats 8000000 in
theorem right_raw (z t : Int) (n : Nat) (x : Sign) (q : Bool) (hR : q = (decide (4 ≤ z ∧ z ≤ 64 ∧ n ≤ 4096 ∧ 0 ≤ t ∧ t < z) && (decide (0 < t) || x == zero))) (A : Option Addr) (c : Nat) (w : World) :
    Calls Try.prog 19 #[.agg (sigC z (.slice A n c) t x)] w fun e w' => e = .returned (.bool q) ∧ Gr w w' := by
  have bx := Lib.hid (Blk.new w 35 (sigC z (.slice A n c) t x))
  have g0 := Lib.hid ((Gr.refl w).alloc (.cells (sigC z (.slice A n c) t x) 35))
  have hho := Lib.hid (fun w => hold_any z w)
  have e0 := hold_eq z
  generalize hold z = h at *
  by_cases hp : 4 ≤ z ∧ z ≤ 64
  · rw [decide_eq_true hp] at e0
    by_cases e1 : (n : Int) ≤ 4096
    · by_cases e2 : 0 ≤ t
      · by_cases e3 : t < z
        · by_cases e4 : 0 < t
          · obtain rfl : q = true := by rw [hR]; simp; omega
            clear hR
            go_enter Try.func19, Try.ntmps19
            go_wp2
            refine region_grow (by kernel_rfl) (by kernel_rfl) ?_
            refine GW.p1 (.pointer (some ⟨w.heap.size, 0, none⟩)) rfl trivial (kn0 (t := 1) (c := .pointer (some ⟨w.heap.size, 0, none⟩)) (by kernel_rfl) rfl) (fun ρ w' hρ hg => by simp [execOp, hρ, go_sem]) ?_
            refine GW.p1 (.int .i64 z) rfl trivial (kn (t := 3) (j := 0) (by kernel_rfl)) (fun ρ w' hρ hg => by simp [execOp, hρ, go_sem, (hg.cell (p := ⟨w.heap.size, 0, none⟩) bx.out.lt).trans (bx.out.cell 0)]) ?_
            refine GW.p1 (.pointer (some ⟨w.heap.size, 0, none⟩)) rfl trivial (kn0 (t := 1) (c := .pointer (some ⟨w.heap.size, 0, none⟩)) (by kernel_rfl) rfl) (fun ρ w' hρ hg => by simp [execOp, hρ, go_sem]) ?_
            refine GW.p1 (.int .i64 z) rfl trivial (kn (t := 5) (j := 2) (by kernel_rfl)) (fun ρ w' hρ hg => by simp [execOp, hρ, go_sem, (hg.cell (p := ⟨w.heap.size, 0, none⟩) bx.out.lt).trans (bx.out.cell 0)]) ?_
            refine GW.call1 (eqv (.int .i64 (h : Int))) rfl trivial rfl Try.func27 (by kernel_rfl) (by kernel_rfl) (eqv_lasts _) (kn (t := 6) (j := 3) (by kernel_rfl)) (fun v w' hg hv => ?_) ?_
            · obtain rfl : v = _ := hv
              refine (hho.out w').mono ?_
              rintro e w9 ⟨rfl, rfl⟩
              exact ⟨_, rfl, rfl, Gr.refl _⟩
            refine GW.bin (.bool true) rfl trivial rfl (kn (t := 4) (j := 1) (by kernel_rfl)) (kn (t := 7) (j := 4) (by kernel_rfl)) (fun w' => by simp [go_sem, e0]) ?_
            refine GW.mv rfl trivial (.inl rfl) (kn (t := 8) (j := 5) (by kernel_rfl)) (eqv_lasts _) ?_
            refine GW.p1 (.pointer (some ⟨w.heap.size, 1, none⟩)) rfl ⟨9, by kernel_rfl, by kernel_rfl, fun _ _ h => h⟩ (kn0 (t := 1) (c := .pointer (some ⟨w.heap.size, 0, none⟩)) (by kernel_rfl) rfl) (fun ρ w' hρ hg => by simp [execOp, hρ, go_sem]) ?_
            refine GW.p1 (.slice A n c) rfl ⟨9, by kernel_rfl, by kernel_rfl, fun _ _ h => h⟩ (kn (t := 10) (j := 7) (by kernel_rfl)) (fun ρ w' hρ hg => by simp [execOp, hρ, go_sem, (hg.cell (p := ⟨w.heap.size, 1, none⟩) bx.out.lt).trans (bx.out.cell 1)]) ?_
            refine GW.lenV rfl ⟨9, by kernel_rfl, by kernel_rfl, fun _ _ h => h⟩ rfl Try.underlying27 (kn (t := 11) (j := 8) (by kernel_rfl)) ?_
            refine GW.bin (.bool true) rfl ⟨9, by kernel_rfl, by kernel_rfl, fun _ _ h => h⟩ rfl (kn (t := 12) (j := 9) (by kernel_rfl)) knc (fun w' => by simp [go_sem, e1]) ?_
            refine GW.pick (b := true) rfl trivial rfl (kn (t := 9) (j := 6) (by kernel_rfl)) (kn (t := 13) (j := 10) (by kernel_rfl)) (eqv_lasts _) ?_
            refine GW.mv rfl trivial (.inl rfl) (kn (t := 14) (j := 11) (by kernel_rfl)) (eqv_lasts _) ?_
            refine GW.p1 (.pointer (some ⟨w.heap.size, 2, none⟩)) rfl ⟨15, by kernel_rfl, by kernel_rfl, fun _ _ h => h⟩ (kn0 (t := 1) (c := .pointer (some ⟨w.heap.size, 0, none⟩)) (by kernel_rfl) rfl) (fun ρ w' hρ hg => by simp [execOp, hρ, go_sem]) ?_
            refine GW.p1 (.int .i64 t) rfl ⟨15, by kernel_rfl, by kernel_rfl, fun _ _ h => h⟩ (kn (t := 16) (j := 13) (by kernel_rfl)) (fun ρ w' hρ hg => by simp [execOp, hρ, go_sem, (hg.cell (p := ⟨w.heap.size, 2, none⟩) bx.out.lt).trans (bx.out.cell 2)]) ?_
            refine GW.bin (.bool true) rfl ⟨15, by kernel_rfl, by kernel_rfl, fun _ _ h => h⟩ rfl (kn (t := 17) (j := 14) (by kernel_rfl)) knc (fun w' => by simp [go_sem, e2]) ?_
            refine GW.pick (b := true) rfl trivial rfl (kn (t := 15) (j := 12) (by kernel_rfl)) (kn (t := 18) (j := 15) (by kernel_rfl)) (eqv_lasts _) ?_
            refine GW.mv rfl trivial (.inl rfl) (kn (t := 19) (j := 16) (by kernel_rfl)) (eqv_lasts _) ?_
            refine GW.p1 (.pointer (some ⟨w.heap.size, 2, none⟩)) rfl ⟨20, by kernel_rfl, by kernel_rfl, fun _ _ h => h⟩ (kn0 (t := 1) (c := .pointer (some ⟨w.heap.size, 0, none⟩)) (by kernel_rfl) rfl) (fun ρ w' hρ hg => by simp [execOp, hρ, go_sem]) ?_
            refine GW.p1 (.int .i64 t) rfl ⟨20, by kernel_rfl, by kernel_rfl, fun _ _ h => h⟩ (kn (t := 21) (j := 18) (by kernel_rfl)) (fun ρ w' hρ hg => by simp [execOp, hρ, go_sem, (hg.cell (p := ⟨w.heap.size, 2, none⟩) bx.out.lt).trans (bx.out.cell 2)]) ?_
            refine GW.p1 (.pointer (some ⟨w.heap.size, 0, none⟩)) rfl ⟨20, by kernel_rfl, by kernel_rfl, fun _ _ h => h⟩ (kn0 (t := 1) (c := .pointer (some ⟨w.heap.size, 0, none⟩)) (by kernel_rfl) rfl) (fun ρ w' hρ hg => by simp [execOp, hρ, go_sem]) ?_
            refine GW.p1 (.int .i64 z) rfl ⟨20, by kernel_rfl, by kernel_rfl, fun _ _ h => h⟩ (kn (t := 23) (j := 20) (by kernel_rfl)) (fun ρ w' hρ hg => by simp [execOp, hρ, go_sem, (hg.cell (p := ⟨w.heap.size, 0, none⟩) bx.out.lt).trans (bx.out.cell 0)]) ?_
            refine GW.bin (.bool true) rfl ⟨20, by kernel_rfl, by kernel_rfl, fun _ _ h => h⟩ rfl (kn (t := 22) (j := 19) (by kernel_rfl)) (kn (t := 24) (j := 21) (by kernel_rfl)) (fun w' => by simp [go_sem, e3]) ?_
            refine GW.pick (b := true) rfl trivial rfl (kn (t := 20) (j := 17) (by kernel_rfl)) (kn (t := 25) (j := 22) (by kernel_rfl)) (eqv_lasts _) ?_
            refine GW.mv rfl trivial (.inl rfl) (kn (t := 26) (j := 23) (by kernel_rfl)) (eqv_lasts _) ?_
            refine GW.p1 (.pointer (some ⟨w.heap.size, 2, none⟩)) rfl ⟨27, by kernel_rfl, by kernel_rfl, fun _ _ h => h⟩ (kn0 (t := 1) (c := .pointer (some ⟨w.heap.size, 0, none⟩)) (by kernel_rfl) rfl) (fun ρ w' hρ hg => by simp [execOp, hρ, go_sem]) ?_
            refine GW.p1 (.int .i64 t) rfl ⟨27, by kernel_rfl, by kernel_rfl, fun _ _ h => h⟩ (kn (t := 28) (j := 25) (by kernel_rfl)) (fun ρ w' hρ hg => by simp [execOp, hρ, go_sem, (hg.cell (p := ⟨w.heap.size, 2, none⟩) bx.out.lt).trans (bx.out.cell 2)]) ?_
            refine GW.bin (.bool true) rfl ⟨27, by kernel_rfl, by kernel_rfl, fun _ _ h => h⟩ rfl (kn (t := 29) (j := 26) (by kernel_rfl)) knc (fun w' => by simp [go_sem, e4]) ?_
            refine GW.mv rfl ⟨27, by kernel_rfl, by kernel_rfl, fun _ _ h => h⟩ (.inl rfl) (kn (t := 30) (j := 27) (by kernel_rfl)) (eqv_lasts _) ?_
            refine GW.skip rfl rfl (d := 31) (by kernel_rfl) (by kernel_rfl) (fun _ _ h => .inl h) ?_
            refine GW.skip rfl rfl (d := 31) (by kernel_rfl) (by kernel_rfl) (fun _ _ h => .inl h) ?_
            refine GW.skip rfl rfl (d := 31) (by kernel_rfl) (by kernel_rfl) (fun _ _ h => .inl h) ?_
            refine GW.skip rfl rfl (d := 31) (by kernel_rfl) (by kernel_rfl) (fun _ _ h => .inl h) ?_
            refine GW.pick (b := true) rfl ⟨27, by kernel_rfl, by kernel_rfl, fun _ _ h => h⟩ rfl (kn (t := 31) (j := 28) (by kernel_rfl)) (knc) (eqv_lasts _) ?_
            refine GW.pick (b := true) rfl trivial rfl (kn (t := 27) (j := 24) (by kernel_rfl)) (kn (t := 36) (j := 33) (by kernel_rfl)) (eqv_lasts _) ?_
            refine GW.mv rfl trivial (.inr rfl) (kn (t := 37) (j := 34) (by kernel_rfl)) (eqv_lasts _) ?_
            refine GW.done (by simp) (by kernel_rfl) (fun w' hg_ => ?_)
            intro v0 _ v1 _ v2 _ v3 _ v4 _ v5 _ v6 _ v7 _ v8 _ v9 _ v10 _ v11 _ v12 _ v13 _ v14 _ v15 _ v16 _ v17 _ v18 _ v19 _ v20 _ v21 _ v22 _ v23 _ v24 _ v25 _ v26 _ v27 _ v28 _ v29 _ v30 _ v31 _ v32 _ v33 _ v34 _ v35 h35
            obtain rfl : v35 = (Value.bool true) := h35
            simp only [GFin, Act.put, List.setIfInBounds_toArray, List.set_cons_succ, List.set_cons_zero]
            go_wp2
            go_ret
            exact ⟨rfl, Gr.trans g0.out hg_⟩
          · obtain rfl : q = (x == zero) := by rw [hR]; simp [e4]; omega
            clear hR
            go_enter Try.func19, Try.ntmps19
            go_wp2
            refine region_grow (by kernel_rfl) (by kernel_rfl) ?_
            refine GW.p1 (.pointer (some ⟨w.heap.size, 0, none⟩)) rfl trivial (kn0 (t := 1) (c := .pointer (some ⟨w.heap.size, 0, none⟩)) (by kernel_rfl) rfl) (fun ρ w' hρ hg => by simp [execOp, hρ, go_sem]) ?_
            refine GW.p1 (.int .i64 z) rfl trivial (kn (t := 3) (j := 0) (by kernel_rfl)) (fun ρ w' hρ hg => by simp [execOp, hρ, go_sem, (hg.cell (p := ⟨w.heap.size, 0, none⟩) bx.out.lt).trans (bx.out.cell 0)]) ?_
            refine GW.p1 (.pointer (some ⟨w.heap.size, 0, none⟩)) rfl trivial (kn0 (t := 1) (c := .pointer (some ⟨w.heap.size, 0, none⟩)) (by kernel_rfl) rfl) (fun ρ w' hρ hg => by simp [execOp, hρ, go_sem]) ?_
            refine GW.p1 (.int .i64 z) rfl trivial (kn (t := 5) (j := 2) (by kernel_rfl)) (fun ρ w' hρ hg => by simp [execOp, hρ, go_sem, (hg.cell (p := ⟨w.heap.size, 0, none⟩) bx.out.lt).trans (bx.out.cell 0)]) ?_
            refine GW.call1 (eqv (.int .i64 (h : Int))) rfl trivial rfl Try.func27 (by kernel_rfl) (by kernel_rfl) (eqv_lasts _) (kn (t := 6) (j := 3) (by kernel_rfl)) (fun v w' hg hv => ?_) ?_
            · obtain rfl : v = _ := hv
              refine (hho.out w').mono ?_
              rintro e w9 ⟨rfl, rfl⟩
              exact ⟨_, rfl, rfl, Gr.refl _⟩
            refine GW.bin (.bool true) rfl trivial rfl (kn (t := 4) (j := 1) (by kernel_rfl)) (kn (t := 7) (j := 4) (by kernel_rfl)) (fun w' => by simp [go_sem, e0]) ?_
            refine GW.mv rfl trivial (.inl rfl) (kn (t := 8) (j := 5) (by kernel_rfl)) (eqv_lasts _) ?_
            refine GW.p1 (.pointer (some ⟨w.heap.size, 1, none⟩)) rfl ⟨9, by kernel_rfl, by kernel_rfl, fun _ _ h => h⟩ (kn0 (t := 1) (c := .pointer (some ⟨w.heap.size, 0, none⟩)) (by kernel_rfl) rfl) (fun ρ w' hρ hg => by simp [execOp, hρ, go_sem]) ?_
            refine GW.p1 (.slice A n c) rfl ⟨9, by kernel_rfl, by kernel_rfl, fun _ _ h => h⟩ (kn (t := 10) (j := 7) (by kernel_rfl)) (fun ρ w' hρ hg => by simp [execOp, hρ, go_sem, (hg.cell (p := ⟨w.heap.size, 1, none⟩) bx.out.lt).trans (bx.out.cell 1)]) ?_
            refine GW.lenV rfl ⟨9, by kernel_rfl, by kernel_rfl, fun _ _ h => h⟩ rfl Try.underlying27 (kn (t := 11) (j := 8) (by kernel_rfl)) ?_
            refine GW.bin (.bool true) rfl ⟨9, by kernel_rfl, by kernel_rfl, fun _ _ h => h⟩ rfl (kn (t := 12) (j := 9) (by kernel_rfl)) knc (fun w' => by simp [go_sem, e1]) ?_
            refine GW.pick (b := true) rfl trivial rfl (kn (t := 9) (j := 6) (by kernel_rfl)) (kn (t := 13) (j := 10) (by kernel_rfl)) (eqv_lasts _) ?_
            refine GW.mv rfl trivial (.inl rfl) (kn (t := 14) (j := 11) (by kernel_rfl)) (eqv_lasts _) ?_
            refine GW.p1 (.pointer (some ⟨w.heap.size, 2, none⟩)) rfl ⟨15, by kernel_rfl, by kernel_rfl, fun _ _ h => h⟩ (kn0 (t := 1) (c := .pointer (some ⟨w.heap.size, 0, none⟩)) (by kernel_rfl) rfl) (fun ρ w' hρ hg => by simp [execOp, hρ, go_sem]) ?_
            refine GW.p1 (.int .i64 t) rfl ⟨15, by kernel_rfl, by kernel_rfl, fun _ _ h => h⟩ (kn (t := 16) (j := 13) (by kernel_rfl)) (fun ρ w' hρ hg => by simp [execOp, hρ, go_sem, (hg.cell (p := ⟨w.heap.size, 2, none⟩) bx.out.lt).trans (bx.out.cell 2)]) ?_
            refine GW.bin (.bool true) rfl ⟨15, by kernel_rfl, by kernel_rfl, fun _ _ h => h⟩ rfl (kn (t := 17) (j := 14) (by kernel_rfl)) knc (fun w' => by simp [go_sem, e2]) ?_
            refine GW.pick (b := true) rfl trivial rfl (kn (t := 15) (j := 12) (by kernel_rfl)) (kn (t := 18) (j := 15) (by kernel_rfl)) (eqv_lasts _) ?_
            refine GW.mv rfl trivial (.inl rfl) (kn (t := 19) (j := 16) (by kernel_rfl)) (eqv_lasts _) ?_
            refine GW.p1 (.pointer (some ⟨w.heap.size, 2, none⟩)) rfl ⟨20, by kernel_rfl, by kernel_rfl, fun _ _ h => h⟩ (kn0 (t := 1) (c := .pointer (some ⟨w.heap.size, 0, none⟩)) (by kernel_rfl) rfl) (fun ρ w' hρ hg => by simp [execOp, hρ, go_sem]) ?_
            refine GW.p1 (.int .i64 t) rfl ⟨20, by kernel_rfl, by kernel_rfl, fun _ _ h => h⟩ (kn (t := 21) (j := 18) (by kernel_rfl)) (fun ρ w' hρ hg => by simp [execOp, hρ, go_sem, (hg.cell (p := ⟨w.heap.size, 2, none⟩) bx.out.lt).trans (bx.out.cell 2)]) ?_
            refine GW.p1 (.pointer (some ⟨w.heap.size, 0, none⟩)) rfl ⟨20, by kernel_rfl, by kernel_rfl, fun _ _ h => h⟩ (kn0 (t := 1) (c := .pointer (some ⟨w.heap.size, 0, none⟩)) (by kernel_rfl) rfl) (fun ρ w' hρ hg => by simp [execOp, hρ, go_sem]) ?_
            refine GW.p1 (.int .i64 z) rfl ⟨20, by kernel_rfl, by kernel_rfl, fun _ _ h => h⟩ (kn (t := 23) (j := 20) (by kernel_rfl)) (fun ρ w' hρ hg => by simp [execOp, hρ, go_sem, (hg.cell (p := ⟨w.heap.size, 0, none⟩) bx.out.lt).trans (bx.out.cell 0)]) ?_
            refine GW.bin (.bool true) rfl ⟨20, by kernel_rfl, by kernel_rfl, fun _ _ h => h⟩ rfl (kn (t := 22) (j := 19) (by kernel_rfl)) (kn (t := 24) (j := 21) (by kernel_rfl)) (fun w' => by simp [go_sem, e3]) ?_
            refine GW.pick (b := true) rfl trivial rfl (kn (t := 20) (j := 17) (by kernel_rfl)) (kn (t := 25) (j := 22) (by kernel_rfl)) (eqv_lasts _) ?_
            refine GW.mv rfl trivial (.inl rfl) (kn (t := 26) (j := 23) (by kernel_rfl)) (eqv_lasts _) ?_
            refine GW.p1 (.pointer (some ⟨w.heap.size, 2, none⟩)) rfl ⟨27, by kernel_rfl, by kernel_rfl, fun _ _ h => h⟩ (kn0 (t := 1) (c := .pointer (some ⟨w.heap.size, 0, none⟩)) (by kernel_rfl) rfl) (fun ρ w' hρ hg => by simp [execOp, hρ, go_sem]) ?_
            refine GW.p1 (.int .i64 t) rfl ⟨27, by kernel_rfl, by kernel_rfl, fun _ _ h => h⟩ (kn (t := 28) (j := 25) (by kernel_rfl)) (fun ρ w' hρ hg => by simp [execOp, hρ, go_sem, (hg.cell (p := ⟨w.heap.size, 2, none⟩) bx.out.lt).trans (bx.out.cell 2)]) ?_
            refine GW.bin (.bool false) rfl ⟨27, by kernel_rfl, by kernel_rfl, fun _ _ h => h⟩ rfl (kn (t := 29) (j := 26) (by kernel_rfl)) knc (fun w' => by simp [go_sem, e4]) ?_
            refine GW.mv rfl ⟨27, by kernel_rfl, by kernel_rfl, fun _ _ h => h⟩ (.inl rfl) (kn (t := 30) (j := 27) (by kernel_rfl)) (eqv_lasts _) ?_
            refine GW.p1 (.pointer (some ⟨w.heap.size, 3, none⟩)) rfl ⟨31, by kernel_rfl, by kernel_rfl, fun _ _ h => h⟩ (kn0 (t := 1) (c := .pointer (some ⟨w.heap.size, 0, none⟩)) (by kernel_rfl) rfl) (fun ρ w' hρ hg => by simp [execOp, hρ, go_sem]) ?_
            refine GW.p1 (sV x) rfl ⟨31, by kernel_rfl, by kernel_rfl, fun _ _ h => h⟩ (kn (t := 32) (j := 29) (by kernel_rfl)) (fun ρ w' hρ hg => by simp [execOp, hρ, go_sem, (hg.cell (p := ⟨w.heap.size, 3, none⟩) bx.out.lt).trans (bx.out.cell 3), (hg.cell (p := ⟨w.heap.size, 4, none⟩) bx.out.lt).trans (bx.out.cell 4), (hg.cell (p := ⟨w.heap.size, 5, none⟩) bx.out.lt).trans (bx.out.cell 5)]) ?_
            refine GW.build #[] (sV zero) rfl ⟨31, by kernel_rfl, by kernel_rfl, fun _ _ h => h⟩ rfl trivial (fun w => by kernel_rfl) ?_
            refine GW.bin (.bool (x == zero)) rfl ⟨31, by kernel_rfl, by kernel_rfl, fun _ _ h => h⟩ rfl (kn (t := 33) (j := 30) (by kernel_rfl)) (kn (t := 34) (j := 31) (by kernel_rfl)) (fun w' => (run_eql_sign _ (.inl rfl) x zero _ _ w').1) ?_
            refine GW.pick (b := false) rfl ⟨27, by kernel_rfl, by kernel_rfl, fun _ _ h => h⟩ rfl (kn (t := 31) (j := 28) (by kernel_rfl)) (kn (t := 35) (j := 32) (by kernel_rfl)) (eqv_lasts _) ?_
            refine GW.pick (b := true) rfl trivial rfl (kn (t := 27) (j := 24) (by kernel_rfl)) (kn (t := 36) (j := 33) (by kernel_rfl)) (eqv_lasts _) ?_
            refine GW.mv rfl trivial (.inr rfl) (kn (t := 37) (j := 34) (by kernel_rfl)) (eqv_lasts _) ?_
            refine GW.done (by simp) (by kernel_rfl) (fun w' hg_ => ?_)
            intro v0 _ v1 _ v2 _ v3 _ v4 _ v5 _ v6 _ v7 _ v8 _ v9 _ v10 _ v11 _ v12 _ v13 _ v14 _ v15 _ v16 _ v17 _ v18 _ v19 _ v20 _ v21 _ v22 _ v23 _ v24 _ v25 _ v26 _ v27 _ v28 _ v29 _ v30 _ v31 _ v32 _ v33 _ v34 _ v35 h35
            obtain rfl : v35 = (.bool (x == zero)) := h35
            simp only [GFin, Act.put, List.setIfInBounds_toArray, List.set_cons_succ, List.set_cons_zero]
            go_wp2
            go_ret
            exact ⟨rfl, Gr.trans g0.out hg_⟩
        · obtain rfl : q = false := by rw [hR]; simp; omega
          clear hR
          go_enter Try.func19, Try.ntmps19
          go_wp2
          refine region_grow (by kernel_rfl) (by kernel_rfl) ?_
          refine GW.p1 (.pointer (some ⟨w.heap.size, 0, none⟩)) rfl trivial (kn0 (t := 1) (c := .pointer (some ⟨w.heap.size, 0, none⟩)) (by kernel_rfl) rfl) (fun ρ w' hρ hg => by simp [execOp, hρ, go_sem]) ?_
          refine GW.p1 (.int .i64 z) rfl trivial (kn (t := 3) (j := 0) (by kernel_rfl)) (fun ρ w' hρ hg => by simp [execOp, hρ, go_sem, (hg.cell (p := ⟨w.heap.size, 0, none⟩) bx.out.lt).trans (bx.out.cell 0)]) ?_
          refine GW.p1 (.pointer (some ⟨w.heap.size, 0, none⟩)) rfl trivial (kn0 (t := 1) (c := .pointer (some ⟨w.heap.size, 0, none⟩)) (by kernel_rfl) rfl) (fun ρ w' hρ hg => by simp [execOp, hρ, go_sem]) ?_
          refine GW.p1 (.int .i64 z) rfl trivial (kn (t := 5) (j := 2) (by kernel_rfl)) (fun ρ w' hρ hg => by simp [execOp, hρ, go_sem, (hg.cell (p := ⟨w.heap.size, 0, none⟩) bx.out.lt).trans (bx.out.cell 0)]) ?_
          refine GW.call1 (eqv (.int .i64 (h : Int))) rfl trivial rfl Try.func27 (by kernel_rfl) (by kernel_rfl) (eqv_lasts _) (kn (t := 6) (j := 3) (by kernel_rfl)) (fun v w' hg hv => ?_) ?_
          · obtain rfl : v = _ := hv
            refine (hho.out w').mono ?_
            rintro e w9 ⟨rfl, rfl⟩
            exact ⟨_, rfl, rfl, Gr.refl _⟩
          refine GW.bin (.bool true) rfl trivial rfl (kn (t := 4) (j := 1) (by kernel_rfl)) (kn (t := 7) (j := 4) (by kernel_rfl)) (fun w' => by simp [go_sem, e0]) ?_
          refine GW.mv rfl trivial (.inl rfl) (kn (t := 8) (j := 5) (by kernel_rfl)) (eqv_lasts _) ?_
          refine GW.p1 (.pointer (some ⟨w.heap.size, 1, none⟩)) rfl ⟨9, by kernel_rfl, by kernel_rfl, fun _ _ h => h⟩ (kn0 (t := 1) (c := .pointer (some ⟨w.heap.size, 0, none⟩)) (by kernel_rfl) rfl) (fun ρ w' hρ hg => by simp [execOp, hρ, go_sem]) ?_
          refine GW.p1 (.slice A n c) rfl ⟨9, by kernel_rfl, by kernel_rfl, fun _ _ h => h⟩ (kn (t := 10) (j := 7) (by kernel_rfl)) (fun ρ w' hρ hg => by simp [execOp, hρ, go_sem, (hg.cell (p := ⟨w.heap.size, 1, none⟩) bx.out.lt).trans (bx.out.cell 1)]) ?_
          refine GW.lenV rfl ⟨9, by kernel_rfl, by kernel_rfl, fun _ _ h => h⟩ rfl Try.underlying27 (kn (t := 11) (j := 8) (by kernel_rfl)) ?_
          refine GW.bin (.bool true) rfl ⟨9, by kernel_rfl, by kernel_rfl, fun _ _ h => h⟩ rfl (kn (t := 12) (j := 9) (by kernel_rfl)) knc (fun w' => by simp [go_sem, e1]) ?_
          refine GW.pick (b := true) rfl trivial rfl (kn (t := 9) (j := 6) (by kernel_rfl)) (kn (t := 13) (j := 10) (by kernel_rfl)) (eqv_lasts _) ?_
          refine GW.mv rfl trivial (.inl rfl) (kn (t := 14) (j := 11) (by kernel_rfl)) (eqv_lasts _) ?_
          refine GW.p1 (.pointer (some ⟨w.heap.size, 2, none⟩)) rfl ⟨15, by kernel_rfl, by kernel_rfl, fun _ _ h => h⟩ (kn0 (t := 1) (c := .pointer (some ⟨w.heap.size, 0, none⟩)) (by kernel_rfl) rfl) (fun ρ w' hρ hg => by simp [execOp, hρ, go_sem]) ?_
          refine GW.p1 (.int .i64 t) rfl ⟨15, by kernel_rfl, by kernel_rfl, fun _ _ h => h⟩ (kn (t := 16) (j := 13) (by kernel_rfl)) (fun ρ w' hρ hg => by simp [execOp, hρ, go_sem, (hg.cell (p := ⟨w.heap.size, 2, none⟩) bx.out.lt).trans (bx.out.cell 2)]) ?_
          refine GW.bin (.bool true) rfl ⟨15, by kernel_rfl, by kernel_rfl, fun _ _ h => h⟩ rfl (kn (t := 17) (j := 14) (by kernel_rfl)) knc (fun w' => by simp [go_sem, e2]) ?_
          refine GW.pick (b := true) rfl trivial rfl (kn (t := 15) (j := 12) (by kernel_rfl)) (kn (t := 18) (j := 15) (by kernel_rfl)) (eqv_lasts _) ?_
          refine GW.mv rfl trivial (.inl rfl) (kn (t := 19) (j := 16) (by kernel_rfl)) (eqv_lasts _) ?_
          refine GW.p1 (.pointer (some ⟨w.heap.size, 2, none⟩)) rfl ⟨20, by kernel_rfl, by kernel_rfl, fun _ _ h => h⟩ (kn0 (t := 1) (c := .pointer (some ⟨w.heap.size, 0, none⟩)) (by kernel_rfl) rfl) (fun ρ w' hρ hg => by simp [execOp, hρ, go_sem]) ?_
          refine GW.p1 (.int .i64 t) rfl ⟨20, by kernel_rfl, by kernel_rfl, fun _ _ h => h⟩ (kn (t := 21) (j := 18) (by kernel_rfl)) (fun ρ w' hρ hg => by simp [execOp, hρ, go_sem, (hg.cell (p := ⟨w.heap.size, 2, none⟩) bx.out.lt).trans (bx.out.cell 2)]) ?_
          refine GW.p1 (.pointer (some ⟨w.heap.size, 0, none⟩)) rfl ⟨20, by kernel_rfl, by kernel_rfl, fun _ _ h => h⟩ (kn0 (t := 1) (c := .pointer (some ⟨w.heap.size, 0, none⟩)) (by kernel_rfl) rfl) (fun ρ w' hρ hg => by simp [execOp, hρ, go_sem]) ?_
          refine GW.p1 (.int .i64 z) rfl ⟨20, by kernel_rfl, by kernel_rfl, fun _ _ h => h⟩ (kn (t := 23) (j := 20) (by kernel_rfl)) (fun ρ w' hρ hg => by simp [execOp, hρ, go_sem, (hg.cell (p := ⟨w.heap.size, 0, none⟩) bx.out.lt).trans (bx.out.cell 0)]) ?_
          refine GW.bin (.bool false) rfl ⟨20, by kernel_rfl, by kernel_rfl, fun _ _ h => h⟩ rfl (kn (t := 22) (j := 19) (by kernel_rfl)) (kn (t := 24) (j := 21) (by kernel_rfl)) (fun w' => by simp [go_sem, e3]) ?_
          refine GW.pick (b := true) rfl trivial rfl (kn (t := 20) (j := 17) (by kernel_rfl)) (kn (t := 25) (j := 22) (by kernel_rfl)) (eqv_lasts _) ?_
          refine GW.mv rfl trivial (.inl rfl) (kn (t := 26) (j := 23) (by kernel_rfl)) (eqv_lasts _) ?_
          refine GW.skip rfl rfl (d := 27) (by kernel_rfl) (by kernel_rfl) (fun _ _ h => .inl h) ?_
          refine GW.skip rfl rfl (d := 27) (by kernel_rfl) (by kernel_rfl) (fun _ _ h => .inl h) ?_
          refine GW.skip rfl rfl (d := 27) (by kernel_rfl) (by kernel_rfl) (fun _ _ h => .inl h) ?_
          refine GW.skip rfl rfl (d := 27) (by kernel_rfl) (by kernel_rfl) (fun _ _ h => .inl h) ?_
          refine GW.skip rfl rfl (d := 31) (by kernel_rfl) (by kernel_rfl) (fun _ _ h => .inr h) ?_
          refine GW.skip rfl rfl (d := 31) (by kernel_rfl) (by kernel_rfl) (fun _ _ h => .inr h) ?_
          refine GW.skip rfl rfl (d := 31) (by kernel_rfl) (by kernel_rfl) (fun _ _ h => .inr h) ?_
          refine GW.skip rfl rfl (d := 31) (by kernel_rfl) (by kernel_rfl) (fun _ _ h => .inr h) ?_
          refine GW.skip rfl rfl (d := 27) (by kernel_rfl) (by kernel_rfl) (fun _ _ h => .inl h) ?_
          refine GW.pick (b := false) rfl trivial rfl (kn (t := 27) (j := 24) (by kernel_rfl)) (knc) (eqv_lasts _) ?_
          refine GW.mv rfl trivial (.inr rfl) (kn (t := 37) (j := 34) (by kernel_rfl)) (eqv_lasts _) ?_
          refine GW.done (by simp) (by kernel_rfl) (fun w' hg_ => ?_)
          intro v0 _ v1 _ v2 _ v3 _ v4 _ v5 _ v6 _ v7 _ v8 _ v9 _ v10 _ v11 _ v12 _ v13 _ v14 _ v15 _ v16 _ v17 _ v18 _ v19 _ v20 _ v21 _ v22 _ v23 _ v24 _ v25 _ v26 _ v27 _ v28 _ v29 _ v30 _ v31 _ v32 _ v33 _ v34 _ v35 h35
          obtain rfl : v35 = (Value.bool false) := h35
          simp only [GFin, Act.put, List.setIfInBounds_toArray, List.set_cons_succ, List.set_cons_zero]
          go_wp2
          go_ret
          exact ⟨rfl, Gr.trans g0.out hg_⟩
      · obtain rfl : q = false := by rw [hR]; simp; omega
        clear hR
        go_enter Try.func19, Try.ntmps19
        go_wp2
        refine region_grow (by kernel_rfl) (by kernel_rfl) ?_
        refine GW.p1 (.pointer (some ⟨w.heap.size, 0, none⟩)) rfl trivial (kn0 (t := 1) (c := .pointer (some ⟨w.heap.size, 0, none⟩)) (by kernel_rfl) rfl) (fun ρ w' hρ hg => by simp [execOp, hρ, go_sem]) ?_
        refine GW.p1 (.int .i64 z) rfl trivial (kn (t := 3) (j := 0) (by kernel_rfl)) (fun ρ w' hρ hg => by simp [execOp, hρ, go_sem, (hg.cell (p := ⟨w.heap.size, 0, none⟩) bx.out.lt).trans (bx.out.cell 0)]) ?_
        refine GW.p1 (.pointer (some ⟨w.heap.size, 0, none⟩)) rfl trivial (kn0 (t := 1) (c := .pointer (some ⟨w.heap.size, 0, none⟩)) (by kernel_rfl) rfl) (fun ρ w' hρ hg => by simp [execOp, hρ, go_sem]) ?_
        refine GW.p1 (.int .i64 z) rfl trivial (kn (t := 5) (j := 2) (by kernel_rfl)) (fun ρ w' hρ hg => by simp [execOp, hρ, go_sem, (hg.cell (p := ⟨w.heap.size, 0, none⟩) bx.out.lt).trans (bx.out.cell 0)]) ?_
        refine GW.call1 (eqv (.int .i64 (h : Int))) rfl trivial rfl Try.func27 (by kernel_rfl) (by kernel_rfl) (eqv_lasts _) (kn (t := 6) (j := 3) (by kernel_rfl)) (fun v w' hg hv => ?_) ?_
        · obtain rfl : v = _ := hv
          refine (hho.out w').mono ?_
          rintro e w9 ⟨rfl, rfl⟩
          exact ⟨_, rfl, rfl, Gr.refl _⟩
        refine GW.bin (.bool true) rfl trivial rfl (kn (t := 4) (j := 1) (by kernel_rfl)) (kn (t := 7) (j := 4) (by kernel_rfl)) (fun w' => by simp [go_sem, e0]) ?_
        refine GW.mv rfl trivial (.inl rfl) (kn (t := 8) (j := 5) (by kernel_rfl)) (eqv_lasts _) ?_
        refine GW.p1 (.pointer (some ⟨w.heap.size, 1, none⟩)) rfl ⟨9, by kernel_rfl, by kernel_rfl, fun _ _ h => h⟩ (kn0 (t := 1) (c := .pointer (some ⟨w.heap.size, 0, none⟩)) (by kernel_rfl) rfl) (fun ρ w' hρ hg => by simp [execOp, hρ, go_sem]) ?_
        refine GW.p1 (.slice A n c) rfl ⟨9, by kernel_rfl, by kernel_rfl, fun _ _ h => h⟩ (kn (t := 10) (j := 7) (by kernel_rfl)) (fun ρ w' hρ hg => by simp [execOp, hρ, go_sem, (hg.cell (p := ⟨w.heap.size, 1, none⟩) bx.out.lt).trans (bx.out.cell 1)]) ?_
        refine GW.lenV rfl ⟨9, by kernel_rfl, by kernel_rfl, fun _ _ h => h⟩ rfl Try.underlying27 (kn (t := 11) (j := 8) (by kernel_rfl)) ?_
        refine GW.bin (.bool true) rfl ⟨9, by kernel_rfl, by kernel_rfl, fun _ _ h => h⟩ rfl (kn (t := 12) (j := 9) (by kernel_rfl)) knc (fun w' => by simp [go_sem, e1]) ?_
        refine GW.pick (b := true) rfl trivial rfl (kn (t := 9) (j := 6) (by kernel_rfl)) (kn (t := 13) (j := 10) (by kernel_rfl)) (eqv_lasts _) ?_
        refine GW.mv rfl trivial (.inl rfl) (kn (t := 14) (j := 11) (by kernel_rfl)) (eqv_lasts _) ?_
        refine GW.p1 (.pointer (some ⟨w.heap.size, 2, none⟩)) rfl ⟨15, by kernel_rfl, by kernel_rfl, fun _ _ h => h⟩ (kn0 (t := 1) (c := .pointer (some ⟨w.heap.size, 0, none⟩)) (by kernel_rfl) rfl) (fun ρ w' hρ hg => by simp [execOp, hρ, go_sem]) ?_
        refine GW.p1 (.int .i64 t) rfl ⟨15, by kernel_rfl, by kernel_rfl, fun _ _ h => h⟩ (kn (t := 16) (j := 13) (by kernel_rfl)) (fun ρ w' hρ hg => by simp [execOp, hρ, go_sem, (hg.cell (p := ⟨w.heap.size, 2, none⟩) bx.out.lt).trans (bx.out.cell 2)]) ?_
        refine GW.bin (.bool false) rfl ⟨15, by kernel_rfl, by kernel_rfl, fun _ _ h => h⟩ rfl (kn (t := 17) (j := 14) (by kernel_rfl)) knc (fun w' => by simp [go_sem, e2]) ?_
        refine GW.pick (b := true) rfl trivial rfl (kn (t := 15) (j := 12) (by kernel_rfl)) (kn (t := 18) (j := 15) (by kernel_rfl)) (eqv_lasts _) ?_
        refine GW.mv rfl trivial (.inl rfl) (kn (t := 19) (j := 16) (by kernel_rfl)) (eqv_lasts _) ?_
        refine GW.skip rfl rfl (d := 20) (by kernel_rfl) (by kernel_rfl) (fun _ _ h => .inl h) ?_
        refine GW.skip rfl rfl (d := 20) (by kernel_rfl) (by kernel_rfl) (fun _ _ h => .inl h) ?_
        refine GW.skip rfl rfl (d := 20) (by kernel_rfl) (by kernel_rfl) (fun _ _ h => .inl h) ?_
        refine GW.skip rfl rfl (d := 20) (by kernel_rfl) (by kernel_rfl) (fun _ _ h => .inl h) ?_
        refine GW.skip rfl rfl (d := 20) (by kernel_rfl) (by kernel_rfl) (fun _ _ h => .inl h) ?_
        refine GW.pick (b := false) rfl trivial rfl (kn (t := 20) (j := 17) (by kernel_rfl)) (knc) (eqv_lasts _) ?_
        refine GW.mv rfl trivial (.inl rfl) (kn (t := 26) (j := 23) (by kernel_rfl)) (eqv_lasts _) ?_
        refine GW.skip rfl rfl (d := 27) (by kernel_rfl) (by kernel_rfl) (fun _ _ h => .inl h) ?_
        refine GW.skip rfl rfl (d := 27) (by kernel_rfl) (by kernel_rfl) (fun _ _ h => .inl h) ?_
        refine GW.skip rfl rfl (d := 27) (by kernel_rfl) (by kernel_rfl) (fun _ _ h => .inl h) ?_
        refine GW.skip rfl rfl (d := 27) (by kernel_rfl) (by kernel_rfl) (fun _ _ h => .inl h) ?_
        refine GW.skip rfl rfl (d := 31) (by kernel_rfl) (by kernel_rfl) (fun _ _ h => .inr h) ?_
        refine GW.skip rfl rfl (d := 31) (by kernel_rfl) (by kernel_rfl) (fun _ _ h => .inr h) ?_
        refine GW.skip rfl rfl (d := 31) (by kernel_rfl) (by kernel_rfl) (fun _ _ h => .inr h) ?_
        refine GW.skip rfl rfl (d := 31) (by kernel_rfl) (by kernel_rfl) (fun _ _ h => .inr h) ?_
        refine GW.skip rfl rfl (d := 27) (by kernel_rfl) (by kernel_rfl) (fun _ _ h => .inl h) ?_
        refine GW.pick (b := false) rfl trivial rfl (kn (t := 27) (j := 24) (by kernel_rfl)) (knc) (eqv_lasts _) ?_
        refine GW.mv rfl trivial (.inr rfl) (kn (t := 37) (j := 34) (by kernel_rfl)) (eqv_lasts _) ?_
        refine GW.done (by simp) (by kernel_rfl) (fun w' hg_ => ?_)
        intro v0 _ v1 _ v2 _ v3 _ v4 _ v5 _ v6 _ v7 _ v8 _ v9 _ v10 _ v11 _ v12 _ v13 _ v14 _ v15 _ v16 _ v17 _ v18 _ v19 _ v20 _ v21 _ v22 _ v23 _ v24 _ v25 _ v26 _ v27 _ v28 _ v29 _ v30 _ v31 _ v32 _ v33 _ v34 _ v35 h35
        obtain rfl : v35 = (Value.bool false) := h35
        simp only [GFin, Act.put, List.setIfInBounds_toArray, List.set_cons_succ, List.set_cons_zero]
        go_wp2
        go_ret
        exact ⟨rfl, Gr.trans g0.out hg_⟩
    · obtain rfl : q = false := by rw [hR]; simp; omega
      clear hR
      go_enter Try.func19, Try.ntmps19
      go_wp2
      refine region_grow (by kernel_rfl) (by kernel_rfl) ?_
      refine GW.p1 (.pointer (some ⟨w.heap.size, 0, none⟩)) rfl trivial (kn0 (t := 1) (c := .pointer (some ⟨w.heap.size, 0, none⟩)) (by kernel_rfl) rfl) (fun ρ w' hρ hg => by simp [execOp, hρ, go_sem]) ?_
      refine GW.p1 (.int .i64 z) rfl trivial (kn (t := 3) (j := 0) (by kernel_rfl)) (fun ρ w' hρ hg => by simp [execOp, hρ, go_sem, (hg.cell (p := ⟨w.heap.size, 0, none⟩) bx.out.lt).trans (bx.out.cell 0)]) ?_
      refine GW.p1 (.pointer (some ⟨w.heap.size, 0, none⟩)) rfl trivial (kn0 (t := 1) (c := .pointer (some ⟨w.heap.size, 0, none⟩)) (by kernel_rfl) rfl) (fun ρ w' hρ hg => by simp [execOp, hρ, go_sem]) ?_
      refine GW.p1 (.int .i64 z) rfl trivial (kn (t := 5) (j := 2) (by kernel_rfl)) (fun ρ w' hρ hg => by simp [execOp, hρ, go_sem, (hg.cell (p := ⟨w.heap.size, 0, none⟩) bx.out.lt).trans (bx.out.cell 0)]) ?_
      refine GW.call1 (eqv (.int .i64 (h : Int))) rfl trivial rfl Try.func27 (by kernel_rfl) (by kernel_rfl) (eqv_lasts _) (kn (t := 6) (j := 3) (by kernel_rfl)) (fun v w' hg hv => ?_) ?_
      · obtain rfl : v = _ := hv
        refine (hho.out w').mono ?_
        rintro e w9 ⟨rfl, rfl⟩
        exact ⟨_, rfl, rfl, Gr.refl _⟩
      refine GW.bin (.bool true) rfl trivial rfl (kn (t := 4) (j := 1) (by kernel_rfl)) (kn (t := 7) (j := 4) (by kernel_rfl)) (fun w' => by simp [go_sem, e0]) ?_
      refine GW.mv rfl trivial (.inl rfl) (kn (t := 8) (j := 5) (by kernel_rfl)) (eqv_lasts _) ?_
      refine GW.p1 (.pointer (some ⟨w.heap.size, 1, none⟩)) rfl ⟨9, by kernel_rfl, by kernel_rfl, fun _ _ h => h⟩ (kn0 (t := 1) (c := .pointer (some ⟨w.heap.size, 0, none⟩)) (by kernel_rfl) rfl) (fun ρ w' hρ hg => by simp [execOp, hρ, go_sem]) ?_
      refine GW.p1 (.slice A n c) rfl ⟨9, by kernel_rfl, by kernel_rfl, fun _ _ h => h⟩ (kn (t := 10) (j := 7) (by kernel_rfl)) (fun ρ w' hρ hg => by simp [execOp, hρ, go_sem, (hg.cell (p := ⟨w.heap.size, 1, none⟩) bx.out.lt).trans (bx.out.cell 1)]) ?_
      refine GW.lenV rfl ⟨9, by kernel_rfl, by kernel_rfl, fun _ _ h => h⟩ rfl Try.underlying27 (kn (t := 11) (j := 8) (by kernel_rfl)) ?_
      refine GW.bin (.bool false) rfl ⟨9, by kernel_rfl, by kernel_rfl, fun _ _ h => h⟩ rfl (kn (t := 12) (j := 9) (by kernel_rfl)) knc (fun w' => by simp [go_sem, e1]) ?_
      refine GW.pick (b := true) rfl trivial rfl (kn (t := 9) (j := 6) (by kernel_rfl)) (kn (t := 13) (j := 10) (by kernel_rfl)) (eqv_lasts _) ?_
      refine GW.mv rfl trivial (.inl rfl) (kn (t := 14) (j := 11) (by kernel_rfl)) (eqv_lasts _) ?_
      refine GW.skip rfl rfl (d := 15) (by kernel_rfl) (by kernel_rfl) (fun _ _ h => .inl h) ?_
      refine GW.skip rfl rfl (d := 15) (by kernel_rfl) (by kernel_rfl) (fun _ _ h => .inl h) ?_
      refine GW.skip rfl rfl (d := 15) (by kernel_rfl) (by kernel_rfl) (fun _ _ h => .inl h) ?_
      refine GW.pick (b := false) rfl trivial rfl (kn (t := 15) (j := 12) (by kernel_rfl)) (knc) (eqv_lasts _) ?_
      refine GW.mv rfl trivial (.inl rfl) (kn (t := 19) (j := 16) (by kernel_rfl)) (eqv_lasts _) ?_
      refine GW.skip rfl rfl (d := 20) (by kernel_rfl) (by kernel_rfl) (fun _ _ h => .inl h) ?_
      refine GW.skip rfl rfl (d := 20) (by kernel_rfl) (by kernel_rfl) (fun _ _ h => .inl h) ?_
      refine GW.skip rfl rfl (d := 20) (by kernel_rfl) (by kernel_rfl) (fun _ _ h => .inl h) ?_
      refine GW.skip rfl rfl (d := 20) (by kernel_rfl) (by kernel_rfl) (fun _ _ h => .inl h) ?_
      refine GW.skip rfl rfl (d := 20) (by kernel_rfl) (by kernel_rfl) (fun _ _ h => .inl h) ?_
      refine GW.pick (b := false) rfl trivial rfl (kn (t := 20) (j := 17) (by kernel_rfl)) (knc) (eqv_lasts _) ?_
      refine GW.mv rfl trivial (.inl rfl) (kn (t := 26) (j := 23) (by kernel_rfl)) (eqv_lasts _) ?_
      refine GW.skip rfl rfl (d := 27) (by kernel_rfl) (by kernel_rfl) (fun _ _ h => .inl h) ?_
      refine GW.skip rfl rfl (d := 27) (by kernel_rfl) (by kernel_rfl) (fun _ _ h => .inl h) ?_
      refine GW.skip rfl rfl (d := 27) (by kernel_rfl) (by kernel_rfl) (fun _ _ h => .inl h) ?_
      refine GW.skip rfl rfl (d := 27) (by kernel_rfl) (by kernel_rfl) (fun _ _ h => .inl h) ?_
      refine GW.skip rfl rfl (d := 31) (by kernel_rfl) (by kernel_rfl) (fun _ _ h => .inr h) ?_
      refine GW.skip rfl rfl (d := 31) (by kernel_rfl) (by kernel_rfl) (fun _ _ h => .inr h) ?_
      refine GW.skip rfl rfl (d := 31) (by kernel_rfl) (by kernel_rfl) (fun _ _ h => .inr h) ?_
      refine GW.skip rfl rfl (d := 31) (by kernel_rfl) (by kernel_rfl) (fun _ _ h => .inr h) ?_
      refine GW.skip rfl rfl (d := 27) (by kernel_rfl) (by kernel_rfl) (fun _ _ h => .inl h) ?_
      refine GW.pick (b := false) rfl trivial rfl (kn (t := 27) (j := 24) (by kernel_rfl)) (knc) (eqv_lasts _) ?_
      refine GW.mv rfl trivial (.inr rfl) (kn (t := 37) (j := 34) (by kernel_rfl)) (eqv_lasts _) ?_
      refine GW.done (by simp) (by kernel_rfl) (fun w' hg_ => ?_)
      intro v0 _ v1 _ v2 _ v3 _ v4 _ v5 _ v6 _ v7 _ v8 _ v9 _ v10 _ v11 _ v12 _ v13 _ v14 _ v15 _ v16 _ v17 _ v18 _ v19 _ v20 _ v21 _ v22 _ v23 _ v24 _ v25 _ v26 _ v27 _ v28 _ v29 _ v30 _ v31 _ v32 _ v33 _ v34 _ v35 h35
      obtain rfl : v35 = (Value.bool false) := h35
      simp only [GFin, Act.put, List.setIfInBounds_toArray, List.set_cons_succ, List.set_cons_zero]
      go_wp2
      go_ret
      exact ⟨rfl, Gr.trans g0.out hg_⟩
  · rw [decide_eq_false hp] at e0
    obtain rfl : q = false := by rw [hR]; simp; omega
    clear hR
    go_enter Try.func19, Try.ntmps19
    go_wp2
    refine region_grow (by kernel_rfl) (by kernel_rfl) ?_
    refine GW.p1 (.pointer (some ⟨w.heap.size, 0, none⟩)) rfl trivial (kn0 (t := 1) (c := .pointer (some ⟨w.heap.size, 0, none⟩)) (by kernel_rfl) rfl) (fun ρ w' hρ hg => by simp [execOp, hρ, go_sem]) ?_
    refine GW.p1 (.int .i64 z) rfl trivial (kn (t := 3) (j := 0) (by kernel_rfl)) (fun ρ w' hρ hg => by simp [execOp, hρ, go_sem, (hg.cell (p := ⟨w.heap.size, 0, none⟩) bx.out.lt).trans (bx.out.cell 0)]) ?_
    refine GW.p1 (.pointer (some ⟨w.heap.size, 0, none⟩)) rfl trivial (kn0 (t := 1) (c := .pointer (some ⟨w.heap.size, 0, none⟩)) (by kernel_rfl) rfl) (fun ρ w' hρ hg => by simp [execOp, hρ, go_sem]) ?_
    refine GW.p1 (.int .i64 z) rfl trivial (kn (t := 5) (j := 2) (by kernel_rfl)) (fun ρ w' hρ hg => by simp [execOp, hρ, go_sem, (hg.cell (p := ⟨w.heap.size, 0, none⟩) bx.out.lt).trans (bx.out.cell 0)]) ?_
    refine GW.call1 (eqv (.int .i64 (h : Int))) rfl trivial rfl Try.func27 (by kernel_rfl) (by kernel_rfl) (eqv_lasts _) (kn (t := 6) (j := 3) (by kernel_rfl)) (fun v w' hg hv => ?_) ?_
    · obtain rfl : v = _ := hv
      refine (hho.out w').mono ?_
      rintro e w9 ⟨rfl, rfl⟩
      exact ⟨_, rfl, rfl, Gr.refl _⟩
    refine GW.bin (.bool false) rfl trivial rfl (kn (t := 4) (j := 1) (by kernel_rfl)) (kn (t := 7) (j := 4) (by kernel_rfl)) (fun w' => by simp [go_sem, e0]) ?_
    refine GW.mv rfl trivial (.inl rfl) (kn (t := 8) (j := 5) (by kernel_rfl)) (eqv_lasts _) ?_
    refine GW.skip rfl rfl (d := 9) (by kernel_rfl) (by kernel_rfl) (fun _ _ h => .inl h) ?_
    refine GW.skip rfl rfl (d := 9) (by kernel_rfl) (by kernel_rfl) (fun _ _ h => .inl h) ?_
    refine GW.skip rfl rfl (d := 9) (by kernel_rfl) (by kernel_rfl) (fun _ _ h => .inl h) ?_
    refine GW.skip rfl rfl (d := 9) (by kernel_rfl) (by kernel_rfl) (fun _ _ h => .inl h) ?_
    refine GW.pick (b := false) rfl trivial rfl (kn (t := 9) (j := 6) (by kernel_rfl)) (knc) (eqv_lasts _) ?_
    refine GW.mv rfl trivial (.inl rfl) (kn (t := 14) (j := 11) (by kernel_rfl)) (eqv_lasts _) ?_
    refine GW.skip rfl rfl (d := 15) (by kernel_rfl) (by kernel_rfl) (fun _ _ h => .inl h) ?_
    refine GW.skip rfl rfl (d := 15) (by kernel_rfl) (by kernel_rfl) (fun _ _ h => .inl h) ?_
    refine GW.skip rfl rfl (d := 15) (by kernel_rfl) (by kernel_rfl) (fun _ _ h => .inl h) ?_
    refine GW.pick (b := false) rfl trivial rfl (kn (t := 15) (j := 12) (by kernel_rfl)) (knc) (eqv_lasts _) ?_
    refine GW.mv rfl trivial (.inl rfl) (kn (t := 19) (j := 16) (by kernel_rfl)) (eqv_lasts _) ?_
    refine GW.skip rfl rfl (d := 20) (by kernel_rfl) (by kernel_rfl) (fun _ _ h => .inl h) ?_
    refine GW.skip rfl rfl (d := 20) (by kernel_rfl) (by kernel_rfl) (fun _ _ h => .inl h) ?_
    refine GW.skip rfl rfl (d := 20) (by kernel_rfl) (by kernel_rfl) (fun _ _ h => .inl h) ?_
    refine GW.skip rfl rfl (d := 20) (by kernel_rfl) (by kernel_rfl) (fun _ _ h => .inl h) ?_
    refine GW.skip rfl rfl (d := 20) (by kernel_rfl) (by kernel_rfl) (fun _ _ h => .inl h) ?_
    refine GW.pick (b := false) rfl trivial rfl (kn (t := 20) (j := 17) (by kernel_rfl)) (knc) (eqv_lasts _) ?_
    refine GW.mv rfl trivial (.inl rfl) (kn (t := 26) (j := 23) (by kernel_rfl)) (eqv_lasts _) ?_
    refine GW.skip rfl rfl (d := 27) (by kernel_rfl) (by kernel_rfl) (fun _ _ h => .inl h) ?_
    refine GW.skip rfl rfl (d := 27) (by kernel_rfl) (by kernel_rfl) (fun _ _ h => .inl h) ?_
    refine GW.skip rfl rfl (d := 27) (by kernel_rfl) (by kernel_rfl) (fun _ _ h => .inl h) ?_
    refine GW.skip rfl rfl (d := 27) (by kernel_rfl) (by kernel_rfl) (fun _ _ h => .inl h) ?_
    refine GW.skip rfl rfl (d := 31) (by kernel_rfl) (by kernel_rfl) (fun _ _ h => .inr h) ?_
    refine GW.skip rfl rfl (d := 31) (by kernel_rfl) (by kernel_rfl) (fun _ _ h => .inr h) ?_
    refine GW.skip rfl rfl (d := 31) (by kernel_rfl) (by kernel_rfl) (fun _ _ h => .inr h) ?_
    refine GW.skip rfl rfl (d := 31) (by kernel_rfl) (by kernel_rfl) (fun _ _ h => .inr h) ?_
    refine GW.skip rfl rfl (d := 27) (by kernel_rfl) (by kernel_rfl) (fun _ _ h => .inl h) ?_
    refine GW.pick (b := false) rfl trivial rfl (kn (t := 27) (j := 24) (by kernel_rfl)) (knc) (eqv_lasts _) ?_
    refine GW.mv rfl trivial (.inr rfl) (kn (t := 37) (j := 34) (by kernel_rfl)) (eqv_lasts _) ?_
    refine GW.done (by simp) (by kernel_rfl) (fun w' hg_ => ?_)
    intro v0 _ v1 _ v2 _ v3 _ v4 _ v5 _ v6 _ v7 _ v8 _ v9 _ v10 _ v11 _ v12 _ v13 _ v14 _ v15 _ v16 _ v17 _ v18 _ v19 _ v20 _ v21 _ v22 _ v23 _ v24 _ v25 _ v26 _ v27 _ v28 _ v29 _ v30 _ v31 _ v32 _ v33 _ v34 _ v35 h35
    obtain rfl : v35 = (Value.bool false) := h35
    simp only [GFin, Act.put, List.setIfInBounds_toArray, List.set_cons_succ, List.set_cons_zero]
    go_wp2
    go_ret
    exact ⟨rfl, Gr.trans g0.out hg_⟩
theorem right_any (s : Sig) (A : Option Addr) (c : Nat) (w : World) : Calls Try.prog 19 #[sigV s A c] w fun e w' => e = .returned (.bool (right s)) ∧ Gr w w' := right_raw _ _ _ _ _ rfl A c w
set_option maxRecDepth 100000 in
set_option maxHeartbeats 4000000 in
theorem total_any (s : Sig) (A : Option Addr) (c : Nat) (w : World) : Calls Try.prog 18 #[sigV s A c] w fun e w' => e = .returned (.int .i64 (total s)) ∧ Gr w w' := by
  have hro := Lib.hid (fun w => right_any s A c w)
  have g0 := Lib.hid ((Gr.refl w).alloc (.cells (sigC s.size (.slice A s.bs.length c) s.tail s.last) 35))
  have bx := Lib.hid (Blk.new w 35 (sigC s.size (.slice A s.bs.length c) s.tail s.last))
  have ht : total s = if right s then (s.bs.length : Int) * s.size + s.tail else 0 := rfl
  obtain ⟨v, hv⟩ : ∃ v, total s = v := ⟨_, rfl⟩
  rw [hv] at ht ⊢
  cases hq : right s
  · rw [hq] at hro ht
    obtain rfl : v = 0 := ht
    go_enter Try.func18, Try.ntmps18
    go_wp2_with fail
    go_at_call 19
    refine (hro.out _).mono ?_
    rintro e w1 ⟨rfl, g1⟩
    have G1 := Lib.hid (Gr.trans g0.out g1)
    clear g1 g0 hro bx
    go_wp2
    go_ret
    exact ⟨rfl, G1.out⟩
  · rw [hq] at hro ht
    obtain rfl : v = (s.bs.length : Int) * s.size + s.tail := ht
    obtain ⟨h1, h2, h3, h4, h5, _⟩ := right_spec hq
    have hm1 : (s.bs.length : Int) * s.size ≤ 4096 * 64 := Int.mul_le_mul (by omega) h2 (by omega) (by omega)
    have hm0 : 0 ≤ (s.bs.length : Int) * s.size := Int.mul_nonneg (by omega) (by omega)
    clear hv hq
    go_enter Try.func18, Try.ntmps18
    go_wp2_with fail
    go_at_call 19
    refine (hro.out _).mono ?_
    rintro e w1 ⟨rfl, g1⟩
    have b1 := blk_more bx.out g1
    have x0 := b1.cell 0
    have x1 := b1.cell 1
    have x2 := b1.cell 2
    have G1 := Lib.hid (Gr.trans g0.out g1)
    clear g1 g0 hro bx b1
    obtain ⟨m, hm⟩ : ∃ m, (s.bs.length : Int) * s.size = m := ⟨_, rfl⟩
    rw [hm] at hm0 hm1
    go_wp2
    go_ret
    refine ⟨?_, G1.out⟩
    simp
    exact hm.symm
end Sg
end Go.Proofs.Ytcibngbgcnnjnaa
namespace Go.Proofs.Ytcibngbgcnnjnaa
open Go Go.RowKit W Bl Vint
namespace Sg
/-- What is put so far. -/
def putN (s : Sig) (k : Nat) : List UInt8 := (num s.size.toNat ++ num s.bs.length) ++ (s.bs.take k).flatMap signB
theorem putN_zero (s : Sig) : putN s 0 = num s.size.toNat ++ num s.bs.length := by simp [putN]
theorem putN_succ (s : Sig) (k : Nat) (h : k < s.bs.length) : putN s k ++ signB s.bs[k] = putN s (k + 1) := by
  unfold putN
  rw [List.take_succ_eq_append_getElem h, List.flatMap_append, List.append_assoc]
  simp
theorem flat_le (l : List Sign) : (l.flatMap signB).length ≤ 26 * l.length := by
  induction l with
  | nil => simp
  | cons x l ih =>
    rw [List.flatMap_cons, List.length_append, List.length_cons]
    have := signB_le x
    omega
theorem putN_le (s : Sig) (k : Nat) (h : right s = true) : (putN s k).length ≤ 200000 := by
  obtain ⟨h1, h2, h3, h4, h5, _⟩ := right_spec h
  have a1 := num_length 9 s.size.toNat (by omega)
  have a2 := num_length 9 s.bs.length (by omega)
  have a3 := flat_le (s.bs.take k)
  simp only [putN, List.length_append]
  rw [List.length_take] at a3
  omega
theorem putB_right {s : Sig} (h : right s = true) : putB s = (putN s s.bs.length ++ num s.tail.toNat) ++ if 0 < s.tail then signB s.last else [] := by
  unfold putB putN
  rw [if_pos h, List.take_length]
  simp only [List.append_assoc]
theorem isB_nil (w : World) : isB [] (.slice none 0 0) w := ⟨none, 0, rfl, by simp, by unfold maxLen; omega, RB.nil_⟩
theorem ofInt_toNat {z : Int} (h : 0 ≤ z) (h2 : z < 18446744073709551616) : (UInt64.ofInt z).toNat = z.toNat := by
  rw [UInt64.ofInt, UInt64.toNat_ofNat']
  omega
theorem isB_gr {l : List UInt8} {v : Value} {w w' : World} (h : isB l v w) (g : Gr w w') : isB l v w' := isB_lasts l v w w' g h
theorem vnum_is (A : Option Addr) (c : Nat) (l : List UInt8) (z : Int) (w : World) (hs : l.length ≤ 100000000000000) (hz : 0 ≤ z) (hz2 : z < 18446744073709551616) (hr : RB w w.heap.size A l) :
    Calls Try.prog 43 #[.slice A l.length c, .int .u64 (n64 (UInt64.ofInt z))] w (Out 5 w (l ++ num z.toNat)) := by
  have := vnum_any A c l (UInt64.ofInt z) w hs hr
  rwa [ofInt_toNat hz hz2] at this
theorem vnum_nat (A : Option Addr) (c : Nat) (l : List UInt8) (n : Nat) (w : World) (hs : l.length ≤ 100000000000000) (hz2 : n < 18446744073709551616) (hr : RB w w.heap.size A l) :
    Calls Try.prog 43 #[.slice A l.length c, .int .u64 (n64 (UInt64.ofNat n))] w (Out 5 w (l ++ num n)) := by
  have := vnum_any A c l (UInt64.ofNat n) w hs hr
  rwa [UInt64.toNat_ofNat', Nat.mod_eq_of_lt hz2] at this
set_option maxRecDepth 100000 in
set_option maxHeartbeats 8000000 in
theorem put_any (s : Sig) (A : Option Addr) (c : Nat) (w : World) (hr : SR w w.heap.size A s.bs) :
    Calls Try.prog 22 #[sigV s A c] w fun e w' => ∃ v, e = .returned v ∧ isB (putB s) v w' ∧ Gr w w' := by
  have hro := Lib.hid (fun w => right_any s A c w)
  have g0 := Lib.hid ((Gr.refl w).alloc (.cells (sigC s.size (.slice A s.bs.length c) s.tail s.last) 35))
  have bx := Lib.hid (Blk.new w 35 (sigC s.size (.slice A s.bs.length c) s.tail s.last))
  have hr' := Lib.hid hr
  clear hr
  cases hq : right s
  · rw [hq] at hro
    have hp : putB s = [] := by unfold putB; rw [hq]; rfl
    rw [hp]
    go_enter Try.func22, Try.ntmps22
    go_wp2_with fail
    go_at_call 19
    refine (hro.out _).mono ?_
    rintro e w1 ⟨rfl, g1⟩
    have G1 := Lib.hid (Gr.trans g0.out g1)
    clear g1 g0 hro bx
    go_wp2
    go_ret
    exact ⟨_, rfl, isB_nil _, G1.out⟩
  · rw [hq] at hro
    obtain ⟨h1, h2, h3, h4, h5, _⟩ := right_spec hq
    obtain ⟨pb, hpb⟩ : ∃ pb, putB s = pb := ⟨_, rfl⟩
    rw [hpb]
    have hp := Lib.hid (hpb.symm.trans (putB_right hq))
    clear hpb
    have hpl := Lib.hid (fun k => putN_le s k hq)
    have hps := Lib.hid (putN_succ s)
    have hp0 := Lib.hid (putN_zero s)
    have a1 := num_length 9 s.size.toNat (by omega)
    clear hq
    go_enter Try.func22, Try.ntmps22
    go_wp2_with fail
    go_at_call 19
    refine (hro.out _).mono ?_
    rintro e w1 ⟨rfl, g1⟩
    have b1 := blk_more bx.out g1
    have x0 := b1.cell 0
    have G1 := Lib.hid (Gr.trans g0.out g1)
    replace b1 := Lib.hid b1
    clear g1 g0 hro bx
    go_wp2_with fail
    go_at_call 43
    refine (vnum_is none 0 [] s.size _ (by simp) (by omega) (by omega) RB.nil_).mono ?_
    rintro e w2 ⟨A2, c2, rfl, o2, g2⟩
    rw [List.nil_append] at o2 ⊢
    have b2 := blk_more b1.out g2
    have y1 := b2.cell 1
    have G2 := Lib.hid (Gr.trans G1.out g2)
    replace b2 := Lib.hid b2
    replace o2 := Lib.hid o2
    clear g2 G1 x0 b1
    go_wp2_with fail
    go_at_call 43
    refine (vnum_nat A2 c2 (num s.size.toNat) s.bs.length _ (by omega) (by omega) o2.out.rb).mono ?_
    rintro e w3 ⟨A3, c3, rfl, o3, g3⟩
    rw [← hp0.out] at o3 ⊢
    have b3 := blk_more b2.out g3
    have z1 := b3.cell 1
    have G3 := Lib.hid (Gr.trans G2.out g3)
    replace b3 := Lib.hid b3
    replace o3 := Lib.hid (isB_of_own o3)
    clear g3 G2 y1 b2 o2 a1 hp0
    go_wp2
    go_loopw [3, 22] (fun out i wr => ∃ k : Nat, k ≤ s.bs.length ∧ i = .int .i64 (k : Int) ∧ isB (putN s k) out wr ∧ Gr w3 wr) (fun _ i _ => s.bs.length - (intOf i).toNat)
    case atStart => exact ⟨0, by omega, rfl, o3.out, Gr.refl w3⟩
    case round =>
      obtain ⟨k, hk, rfl, ⟨A5, c5, rfl, hc5, hm5, r5⟩, hg⟩ := hrel
      by_cases h : k < s.bs.length
      · obtain ⟨ad, hA, hlt, e0, e1, e2⟩ := ((hr'.out.below (Gr.trans G3.out hg)).more (Below.size (Gr.trans G3.out hg))).at_ h
        have hsu := Lib.hid (hps.out k h)
        have hl5 := hpl.out k
        subst hA
        generalize s.bs[k] = x at *
        have r5' := Lib.hid r5
        have hg' := Lib.hid hg
        generalize putN s k = P at *
        clear hpl hps r5 hg z1
        go_wp2_with fail
        go_at_call 44
        refine (sput_any A5 c5 P x _ (by omega) hc5 hm5 ((r5'.out.alloc (Nat.le_refl _) _).more (by rw [World.size_alloc]; omega))).mono ?_
        rintro e w6 ⟨A6, c6, rfl, o6, g6⟩
        rw [hsu.out] at o6 ⊢
        have G6 := Lib.hid (Gr.trans (hg'.out.alloc _) g6)
        replace o6 := Lib.hid (isB_of_own o6)
        clear g6
        go_wp2
        go_roundw
        case rel => exact ⟨k + 1, by omega, by go_num, o6.out, G6.out⟩
        case measure => simp [intOf]; omega
      · obtain rfl : k = s.bs.length := by omega
        have hl5 := hpl.out s.bs.length
        have b5 := blk_more b3.out hg
        have x2 := b5.cell 2
        have G5 := Lib.hid (Gr.trans G3.out hg)
        have r5' := Lib.hid r5
        replace b5 := Lib.hid b5
        generalize putN s s.bs.length = P at *
        clear hpl hps r5 hg z1
        go_wp2_with fail
        go_at_call 43
        refine (vnum_is A5 c5 P s.tail _ (by omega) (by omega) (by omega) r5'.out).mono ?_
        rintro e w6 ⟨A6, c6, rfl, o6, g6⟩
        have b6 := blk_more b5.out g6
        have y2 := b6.cell 2
        have y3 := b6.cell 3
        have y4 := b6.cell 4
        have y5 := b6.cell 5
        have G6 := Lib.hid (Gr.trans G5.out g6)
        have hc6 := OB.cap o6
        have a6 := num_length 9 s.tail.toNat (by omega)
        have hq6 : (P ++ num s.tail.toNat).length ≤ 1000000 := by rw [List.length_append]; omega
        generalize P ++ num s.tail.toNat = Q at *
        have r6 := Lib.hid o6.rb
        replace o6 := Lib.hid (isB_of_own o6)
        clear g6 x2 G5 b5
        by_cases ht : 0 < s.tail
        · rw [if_pos ht] at hp
          go_wp2_with fail
          go_at_call 44
          refine (sput_any A6 c6 Q s.last _ (by omega) hc6.1 hc6.2 r6.out).mono ?_
          rintro e w7 ⟨A7, c7, rfl, o7, g7⟩
          rw [← hp.out] at o7 ⊢
          have G7 := Lib.hid (Gr.trans G6.out g7)
          replace o7 := Lib.hid (isB_of_own o7)
          clear g7 y2 y3 y4 y5
          go_wp2
          go_ret
          exact ⟨_, rfl, o7.out, G7.out⟩
        · rw [if_neg ht, List.append_nil] at hp
          obtain rfl := hp.out
          clear hp
          clear y3 y4 y5
          go_wp2
          go_ret
          exact ⟨_, rfl, o6.out, G6.out⟩
end Sg
end Go.Proofs.Ytcibngbgcnnjnaa
namespace Go.Proofs.Ytcibngbgcnnjnaa
open Go Go.RowKit W
namespace Bl
theorem count_neg (n : Int) (size : Int) (w : World) (hn : n < 0) : Calls Try.prog 7 #[.int .i64 n, .int .i64 size] w fun e w' => e = .returned (.int .i64 0) ∧ w' = w := by
  have hh := Lib.hid (hold_any size w)
  have hp := (hold_pos size).1
  have hp2 := (hold_pos size).2
  generalize hold size = h at *
  have h0 : ¬ (h : Int) = 0 := by omega
  have hb : ((h : Int) == 0) = false := by simp; omega
  have hb1 : ((h : Int) == -1) = false := by simp
  go_enter Try.func7, Try.ntmps7
  go_wp2_with fail
  go_at_call 27
  refine hh.out.mono ?_
  rintro e w1 ⟨rfl, rfl⟩
  clear hh
  go_wp2
  go_ret
  exact ⟨rfl, rfl⟩
/-- So many that all but the last one are whole. -/
theorem count_whole {n h : Nat} (hn : 0 < n) (hh : 0 < h) : 1 ≤ count n h ∧ count n h ≤ n ∧ (n - 1) / h = count n h - 1 := by
  have h1 : 0 < count n h := (count_lt hh).2 (by omega)
  refine ⟨h1, count_le n h hh, ?_⟩
  have h2 := (count_lt (n := n) (k := count n h - 1) hh).1 (by omega)
  have h3 : ¬ count n h * h < n := fun h3 => Nat.lt_irrefl _ ((count_lt hh).2 h3)
  refine Nat.le_antisymm ?_ ?_
  · refine Nat.le_of_lt_succ ((Nat.div_lt_iff_lt_mul hh).2 ?_)
    rw [Nat.succ_eq_add_one, Nat.sub_add_cancel h1]
    omega
  · exact (Nat.le_div_iff_mul_le hh).2 (by omega)
end Bl
end Go.Proofs.Ytcibngbgcnnjnaa
namespace Go.Proofs.Ytcibngbgcnnjnaa
open Go Go.RowKit W Bl Vint
namespace Sg
abbrev abc : List UInt8 := [97, 98, 99, 100, 101, 102, 103, 104, 105, 106]
theorem num_pos (n : Nat) : 1 ≤ (num n).length := by
  rw [num]
  split <;> simp
theorem signB_pos (x : Sign) : 17 ≤ (signB x).length := by
  have := num_pos x.1.toNat
  simp only [signB, sum, be8, List.length_append, List.length_map, List.length_range]
  omega
theorem put_long {s : Sig} (h : right s = true) (h2 : s.bs.length = 2) : 20 < (putB s).length := by
  have e : ∃ a b, s.bs = [a, b] := by
    obtain ⟨z, bs, t, x⟩ := s
    simp only at h2
    match bs, h2 with
    | [a, b], _ => exact ⟨a, b, rfl⟩
  obtain ⟨a, b, e⟩ := e
  rw [putB_right h, List.length_append, List.length_append, putN, List.length_append, h2]
  rw [e]
  have h3 := signB_pos a
  have h4 := signB_pos b
  simp only [List.take_succ_cons, List.take_zero, List.flatMap_cons, List.flatMap_nil, List.length_append, List.length_nil]
  omega
set_option maxRecDepth 100000 in
set_option maxHeartbeats 4000000 in
theorem awake_any (w : World) : Calls Try.prog 9 #[] w fun e w' => e = .returned (.bool true) ∧ Gr w w' := by
  have hl := Lib.hid (put_long (s := sigOf abc 4) (right_sigOf _ _ (by simp)) (by simp only [sigOf, full_len]; rfl))
  have hb : (sigOf abc 4).bs.length = 2 := by simp only [sigOf, full_len]; rfl
  have ht : (sigOf abc 4).tail = 2 := rfl
  have kc := fun (w : World) (C : Array Value) (n c : Nat) => Lib.run_convert_bytes_const (P := Try.prog) w 26 5 C n c Try.underlying26 Try.underlying5
  have r0 := Lib.hid (fun w => RB.of_new w 5 abc (10, 11))
  have hcn := Lib.hid (fun w => (count_any 10 4 w (by omega) : Calls Try.prog 7 #[.int .i64 10, .int .i64 4] w fun e w' => e = .returned (.int .i64 3) ∧ w' = w))
  have hat := Lib.hid (fun A w (hr : RB w w.heap.size A abc) => (at_any A 10 abc 4 2 w (by simp) (by simp) hr (by decide) : Calls Try.prog 17 #[.slice A 10 10, .int .i64 4, .int .i64 2] w (Out 5 w [105, 106])))
  obtain ⟨s, hs⟩ : ∃ s, sigOf abc 4 = s := ⟨_, rfl⟩
  rw [hs] at hl hb ht
  have hof := Lib.hid (fun A w (hr : RB w w.heap.size A abc) => of_any A 10 abc 4 w (by simp) (by simp) (by unfold maxLen; simp) hr)
  rw [hs] at hof
  clear hs
  go_enter Try.func9, Try.ntmps9
  go_wp2_with fail
  go_at_call 10
  refine (hof.out _ _ (by rw [World.size_alloc]; exact r0.out w)).mono ?_
  rintro e w1 ⟨A1, c1, rfl, o1, g1⟩
  have G1 := Lib.hid ((Gr.trans ((Gr.refl w).alloc _) g1).alloc (.cells (sigC s.size (.slice A1 s.bs.length c1) s.tail s.last) 35))
  have n1 := Lib.hid (Blk.new w1 35 (sigC s.size (.slice A1 s.bs.length c1) s.tail s.last))
  have o1' := Lib.hid (OS.below o1 ((Gr.refl w1).alloc (.cells (sigC s.size (.slice A1 s.bs.length c1) s.tail s.last) 35)))
  have hpu := Lib.hid (fun w (hr : SR w w.heap.size A1 s.bs) => Sg.put_any s A1 c1 w hr)
  clear g1 o1 hof
  unfold sigV at hpu
  rw [hb, ht] at n1 o1' hpu G1
  have kc2 := fun (C : Array Value) (n c : Nat) => kc (w1.alloc (.cells (sigC s.size (.slice A1 2 c1) 2 s.last) 35)) C n c
  simp only [World.size_alloc] at kc2
  go_wp2_with fail
  go_at_call 7
  refine (hcn.out _).mono ?_
  rintro e w2 ⟨rfl, rfl⟩
  clear hcn
  go_wp2_with fail
  go_at_call 17
  refine (hat.out _ _ (by simp only [World.size_alloc]; have := r0.out (w1.alloc (.cells (sigC s.size (.slice A1 2 c1) 2 s.last) 35)); rw [World.size_alloc] at this; exact this)).mono ?_
  rintro e w3 ⟨A3, c3, rfl, o3, g3⟩
  have n3 := blk_more (n1.out.alloc (.cells (bvs abc).toArray 5 (10, 11))) g3
  have x0 := n3.cell 0
  have x1 := n3.cell 1
  have x2 := n3.cell 2
  have x3 := n3.cell 3
  have x4 := n3.cell 4
  have x5 := n3.cell 5
  have o3' := Lib.hid o3.rb
  have o4 := Lib.hid (OS.below o1'.out (Gr.trans ((Gr.refl _).alloc (.cells (bvs abc).toArray 5 (10, 11))) g3))
  have G3 := Lib.hid (Gr.trans (G1.out.alloc _) g3)
  clear n1 n3 o3 g3 o1' G1
  go_wp2_with (first
    | (refine wpList_bytes_string rfl (.tmp 21) 26 9 5 rfl Try.underlying26 Bl.byteType.1 Try.underlying9 _ _ _ _ [105, 106] rfl rfl o3'.out ?_))
  refine (hpu.out _ (by have := o4.out; unfold OS at this; exact (OS.sr (E := 33) (base := (w.alloc (.cells (bvs abc).toArray 5 (10, 11))).heap.size) (c := c1) (by rw [hb]; exact this)))).mono ?_
  rintro e w4 ⟨v, rfl, ⟨A4, c4, rfl, _, _, r4⟩, g4⟩
  have G4 := Lib.hid (Gr.trans G3.out g4)
  have hl' : (20 : Int) < ((putB s).length : Int) := by have := hl.out; omega
  clear g4 r4
  go_wp2
  go_ret
  exact ⟨rfl, G4.out⟩
end Sg
end Go.Proofs.Ytcibngbgcnnjnaa
namespace Go.Proofs.Ytcibngbgcnnjnaa
open Go Go.RowKit W Bl
namespace Sg
theorem run_ldSign {T : TypeId} (hT : T = 33 ∨ T = 40) (w : World) (p ad : Addr) (t : Sign) (h0 : w.cell? p = some (.int .u32 (n32 t.1))) (h1 : w.cell? ⟨p.block, p.off + 1, none⟩ = some (.int .u64 (n64 t.2.1))) (h2 : w.cell? ⟨p.block, p.off + 2, none⟩ = some (.int .u64 (n64 t.2.2))) (hp : p = ad) :
    (Instr.loadAt T (.pointer (some ad))).run Try.prog w = .ok (sV t) w := by
  subst hp
  rcases hT with rfl | rfl <;> simp [Instr.loadAt, go_sem, h0, h1, h2]
theorem take_snoc_eq {l m : List Sign} {k : Nat} (h : k < l.length) (h' : k < m.length) (e : l.take k = m.take k) (e2 : l[k] = m[k]) : l.take (k + 1) = m.take (k + 1) := by
  rw [List.take_succ_eq_append_getElem h, List.take_succ_eq_append_getElem h', e, e2]
theorem ne_at {l m : List Sign} {k : Nat} (h : k < l.length) (h' : k < m.length) (e2 : l[k] ≠ m[k]) : decide (l = m) = false := by
  rw [decide_eq_false_iff_not]
  intro e
  subst e
  exact e2 rfl
theorem sig_eq (z : Int) (l : List Sign) (t : Int) (x : Sign) (m : List Sign) : decide ((⟨z, l, t, x⟩ : Sig) = ⟨z, m, t, x⟩) = decide (l = m) := by
  rw [decide_eq_decide]
  constructor
  · intro h; exact congrArg Sig.bs h
  · intro h; rw [h]
set_option maxRecDepth 100000 in
set_option maxHeartbeats 8000000 in
theorem refSame_any (s t : Sig) (A B : Option Addr) (c d : Nat) (w : World) (hl : SR w w.heap.size A s.bs) (hm : SR w w.heap.size B t.bs) (hk40 : s.bs.length ≤ 1000000) :
    Calls Try.prog 14 #[sigV s A c, sigV t B d] w fun e w' => e = .returned (.bool (decide (s = t))) ∧ Gr w w' := by
  obtain ⟨z, l, t1, x⟩ := s
  obtain ⟨z', m, t1', x'⟩ := t
  simp only at hl hm hk40
  obtain ⟨q, hq⟩ : ∃ q, decide ((⟨z, l, t1, x⟩ : Sig) = ⟨z', m, t1', x'⟩) = q := ⟨_, rfl⟩
  rw [hq]
  have b0 := Lib.hid ((Blk.new w 45 (sigC z (.slice A l.length c) t1 x)).alloc (.cells (sigC z' (.slice B m.length d) t1' x') 45))
  have b1 := Blk.new (w.alloc (.cells (sigC z (.slice A l.length c) t1 x) 45)) 45 (sigC z' (.slice B m.length d) t1' x')
  rw [World.size_alloc] at b1
  have b1 := Lib.hid b1
  have g0 := Lib.hid (((Gr.refl w).alloc (.cells (sigC z (.slice A l.length c) t1 x) 45)).alloc (.cells (sigC z' (.slice B m.length d) t1' x') 45))
  have hl' := Lib.hid hl
  have hm' := Lib.hid hm
  clear hl hm
  obtain ⟨xa, xb, xc⟩ := x
  obtain ⟨ya, yb, yc⟩ := x'
  show Calls Try.prog 14 #[.agg (sigC z (.slice A l.length c) t1 (xa, xb, xc)), .agg (sigC z' (.slice B m.length d) t1' (ya, yb, yc))] w _
  by_cases h0 : z = z'
  · obtain rfl := h0
    by_cases h1 : l.length = m.length
    · obtain ⟨n, hnl⟩ : ∃ n, l.length = n := ⟨_, rfl⟩
      have hnm : m.length = n := by omega
      clear h1
      rw [hnl] at b0 b1 g0 hk40 ⊢
      rw [hnm] at b0 b1 g0 ⊢
      have hnl := Lib.hid hnl
      have hnm := Lib.hid hnm
      by_cases h2 : t1 = t1'
      · obtain rfl := h2
        by_cases h3 : xa = ya
        · obtain rfl := h3
          by_cases h4 : xb = yb
          · obtain rfl := h4
            by_cases h5 : xc = yc
            · obtain rfl := h5
              rw [sig_eq] at hq
              go_enter Try.func14, Try.ntmps14
              go_wp2
              generalize (w.alloc (.cells (sigC z (.slice A n c) t1 (xa, xb, xc)) 45)).alloc (.cells (sigC z (.slice B n d) t1 (xa, xb, xc)) 45) = w0 at *
              go_loopw [5] (fun i wr => ∃ k : Nat, k ≤ n ∧ i = .int .i64 (k : Int) ∧ Hid (l.take k = m.take k) ∧ Gr w0 wr) (fun i _ => n - (intOf i).toNat)
              case atStart => exact ⟨0, by omega, rfl, Lib.hid rfl, Gr.refl w0⟩
              case round =>
                obtain ⟨k, hk, rfl, he, hg⟩ := hrel
                have bo := Lib.hid (blk_more b0.out hg)
                have bp := Lib.hid (blk_more b1.out hg)
                have y1 := bo.out.cell 1
                by_cases h0 : k < n
                · have h : k < l.length := by have := hnl.out; omega
                  obtain ⟨ad, hA, hlt, e0, e1, e2⟩ := (hl'.out.below (Gr.trans g0.out hg)).at_ h
                  obtain ⟨ad', hA', hlt', f0, f1, f2⟩ := (hm'.out.below (Gr.trans g0.out hg)).at_ (k := k) (by have := hnm.out; omega)
                  subst hA hA'
                  have hlt2 : (ad.add (k * 3)).block < wr.heap.size := by rw [block_of_add]; exact Nat.lt_of_lt_of_le hlt (Below.size (Gr.trans g0.out hg))
                  have hlt3 : (ad'.add (k * 3)).block < wr.heap.size := by rw [block_of_add]; exact Nat.lt_of_lt_of_le hlt' (Below.size (Gr.trans g0.out hg))
                  have hkm : k < m.length := by have := hnm.out; omega
                  obtain ⟨q1, hqe⟩ : ∃ q1, (l[k] != m[k]) = q1 := ⟨_, rfl⟩
                  replace hqe := Lib.hid hqe
                  go_wp2
                  refine region_grow (by kernel_rfl) (by kernel_rfl) ?_
                  refine GW.p1 (.pointer (some ⟨w.heap.size, 1, none⟩)) rfl trivial (kn0 (t := 2) (c := .pointer (some ⟨w.heap.size, 0, none⟩)) (by kernel_rfl) rfl) (fun ρ w' hρ hg => by simp [execOp, hρ, go_sem]) ?_
                  refine GW.p1 (.slice (some ad) n c) rfl trivial (kn (t := 41) (j := 0) (by kernel_rfl)) (fun ρ w' hρ hg => by simp [execOp, hρ, go_sem, (hg.cell (p := ⟨w.heap.size, 1, none⟩) bo.out.lt).trans (bo.out.cell 1)]) ?_
                  refine GW.mv rfl trivial (.inl rfl) (kn0 (t := 5) (c := .int .i64 (k : Int)) (by kernel_rfl) rfl) (eqv_lasts _) ?_
                  refine GW.p2 (.pointer (some (ad.add (k * 3)))) rfl trivial (kn (t := 42) (j := 1) (by kernel_rfl)) (kn (t := 43) (j := 2) (by kernel_rfl)) (fun ρ w' h1 h2 hg => by show ((Instr.indexAt 43 (ρ (.tmp 42)) (ρ (.tmp 43)) >>= fun v => pure (Next.value v)) : Sem Next).run Try.prog w' = _; rw [h1, h2, Sem.run_bind, run_idxR w' Try.underlying43 (size := 3) (by kernel_rfl) ad _ _ k h0]; simp) ?_
                  refine GW.p1 (.agg #[.int .u32 (n32 (l[k]).1), .int .u64 (n64 (l[k]).2.1), .int .u64 (n64 (l[k]).2.2)]) rfl trivial (kn (t := 44) (j := 3) (by kernel_rfl)) (fun ρ w' hρ hg => by simp [execOp, hρ, go_sem, (hg.cell (p := (ad.add (k * 3))) hlt2).trans e0, (hg.cell (p := ⟨(ad.add (k * 3)).block, (ad.add (k * 3)).off + 1, none⟩) hlt2).trans e1, (hg.cell (p := ⟨(ad.add (k * 3)).block, (ad.add (k * 3)).off + 2, none⟩) hlt2).trans e2]) ?_
                  refine GW.p1 (.pointer (some ⟨w.heap.size + 1, 1, none⟩)) rfl trivial (kn0 (t := 3) (c := .pointer (some ⟨w.heap.size + 1, 0, none⟩)) (by kernel_rfl) rfl) (fun ρ w' hρ hg => by simp [execOp, hρ, go_sem]) ?_
                  refine GW.p1 (.slice (some ad') n d) rfl trivial (kn (t := 46) (j := 5) (by kernel_rfl)) (fun ρ w' hρ hg => by simp [execOp, hρ, go_sem, (hg.cell (p := ⟨w.heap.size + 1, 1, none⟩) bp.out.lt).trans (bp.out.cell 1)]) ?_
                  refine GW.mv rfl trivial (.inl rfl) (kn0 (t := 5) (c := .int .i64 (k : Int)) (by kernel_rfl) rfl) (eqv_lasts _) ?_
                  refine GW.p2 (.pointer (some (ad'.add (k * 3)))) rfl trivial (kn (t := 47) (j := 6) (by kernel_rfl)) (kn (t := 48) (j := 7) (by kernel_rfl)) (fun ρ w' h1 h2 hg => by show ((Instr.indexAt 43 (ρ (.tmp 47)) (ρ (.tmp 48)) >>= fun v => pure (Next.value v)) : Sem Next).run Try.prog w' = _; rw [h1, h2, Sem.run_bind, run_idxR w' Try.underlying43 (size := 3) (by kernel_rfl) ad' _ _ k h0]; simp) ?_
                  refine GW.p1 (.agg #[.int .u32 (n32 (m[k]).1), .int .u64 (n64 (m[k]).2.1), .int .u64 (n64 (m[k]).2.2)]) rfl trivial (kn (t := 49) (j := 8) (by kernel_rfl)) (fun ρ w' hρ hg => by simp [execOp, hρ, go_sem, (hg.cell (p := (ad'.add (k * 3))) hlt3).trans f0, (hg.cell (p := ⟨(ad'.add (k * 3)).block, (ad'.add (k * 3)).off + 1, none⟩) hlt3).trans f1, (hg.cell (p := ⟨(ad'.add (k * 3)).block, (ad'.add (k * 3)).off + 2, none⟩) hlt3).trans f2]) ?_
                  refine GW.bin (.bool q1) rfl trivial rfl (kn (t := 45) (j := 4) (by kernel_rfl)) (kn (t := 50) (j := 9) (by kernel_rfl)) (fun w' => by rw [(run_eql_sign _ (.inr rfl) l[k] m[k] _ _ w').2, hqe.out]) ?_
                  refine GW.done (by simp) (by kernel_rfl) (fun w' hg_ => ?_)
                  intro v0 _ v1 _ v2 _ v3 _ v4 _ v5 _ v6 _ v7 _ v8 _ v9 _ v10 h10
                  obtain rfl : v10 = (.bool q1) := h10
                  simp only [GFin, Act.put, List.setIfInBounds_toArray, List.set_cons_succ, List.set_cons_zero]
                  clear e0 e1 e2 f0 f1 f2 y1
                  cases q1 with
                  | false =>
                    have hte := Lib.hid (take_snoc_eq h hkm he.out (by simpa using hqe.out))
                    go_wp2
                    go_roundw
                    case rel => exact ⟨k + 1, by omega, by go_num, hte, Gr.trans hg hg_⟩
                    case measure => simp [intOf]; omega
                  | true =>
                    have hfa := Lib.hid (ne_at h hkm (by simpa using hqe.out))
                    go_wp2
                    go_ret
                    exact ⟨ret_bool (hfa.out.symm.trans hq), Gr.trans g0.out (Gr.trans hg hg_)⟩
                · obtain rfl : k = n := by omega
                  have hte := he.out
                  rw [List.take_of_length_le (by have := hnl.out; omega), List.take_of_length_le (by have := hnm.out; omega)] at hte
                  replace hte := Lib.hid hte
                  go_wp2
                  go_ret
                  exact ⟨ret_bool ((decide_eq_true hte.out).symm.trans hq), Gr.trans g0.out hg⟩
            · obtain rfl : q = false := by
                rw [← hq, decide_eq_false_iff_not]
                intro e
                simp only [Sig.mk.injEq, Prod.mk.injEq] at e
                simp_all
              clear hq
              have e1 : (xc == yc) = false := by simp [h5]
              go_enter Try.func14, Try.ntmps14
              go_wp2
              go_ret
              exact ⟨rfl, g0.out⟩
          · obtain rfl : q = false := by
              rw [← hq, decide_eq_false_iff_not]
              intro e
              simp only [Sig.mk.injEq, Prod.mk.injEq] at e
              simp_all
            clear hq
            have e1 : (xb == yb) = false := by simp [h4]
            go_enter Try.func14, Try.ntmps14
            go_wp2
            go_ret
            exact ⟨rfl, g0.out⟩
        · obtain rfl : q = false := by
            rw [← hq, decide_eq_false_iff_not]
            intro e
            simp only [Sig.mk.injEq, Prod.mk.injEq] at e
            simp_all
          clear hq
          have e1 : (xa == ya) = false := by simp [h3]
          go_enter Try.func14, Try.ntmps14
          go_wp2
          go_ret
          exact ⟨rfl, g0.out⟩
      · obtain rfl : q = false := by
          rw [← hq, decide_eq_false_iff_not]
          intro e
          simp only [Sig.mk.injEq, Prod.mk.injEq] at e
          simp_all
        clear hq
        have e1 : (t1 == t1') = false := by simp [h2]
        go_enter Try.func14, Try.ntmps14
        go_wp2
        go_ret
        exact ⟨rfl, g0.out⟩
    · obtain rfl : q = false := by
        rw [← hq, decide_eq_false_iff_not]
        intro e
        simp only [Sig.mk.injEq, Prod.mk.injEq] at e
        simp_all
      clear hq
      have e1 : ((l.length : Int) == (m.length : Int)) = false := by simp; omega
      go_enter Try.func14, Try.ntmps14
      go_wp2
      go_ret
      exact ⟨rfl, g0.out⟩
  · obtain rfl : q = false := by
      rw [← hq, decide_eq_false_iff_not]
      intro e
      simp only [Sig.mk.injEq, Prod.mk.injEq] at e
      simp_all
    clear hq
    have e1 : (z == z') = false := by simp [h0]
    go_enter Try.func14, Try.ntmps14
    go_wp2
    go_ret
    exact ⟨rfl, g0.out⟩
set_option maxRecDepth 100000 in
set_option maxHeartbeats 4000000 in
theorem equal_any (A : Option Addr) (c : Nat) (l : List Sign) (B : Option Addr) (d : Nat) (m : List Sign) (w : World) (hl : SR w w.heap.size A l) (hm : SR w w.heap.size B m) (hk40 : l.length ≤ 1000000) :
    Calls Try.prog 47 #[.slice A l.length c, .slice B m.length d] w fun e w' => e = .returned (.bool (decide (l = m))) ∧ Gr w w' := by
  have hl' := Lib.hid hl
  have hm' := Lib.hid hm
  clear hl hm
  by_cases hn : l.length = m.length
  · go_enter Try.func47, Try.ntmps47
    go_wp2
    go_loopw [5, 13] (fun _ i wr => ∃ k : Nat, k ≤ l.length ∧ i = .int .i64 (k : Int) ∧ Hid (l.take k = m.take k) ∧ Gr w wr) (fun _ i _ => l.length - (intOf i).toNat)
    case atStart => exact ⟨0, by omega, rfl, Lib.hid rfl, Gr.refl w⟩
    case round =>
      obtain ⟨k, hk, rfl, he, hg⟩ := hrel
      by_cases h : k < l.length
      · obtain ⟨ad, hA, hlt, e0, e1, e2⟩ := (hl'.out.below hg).at_ h
        obtain ⟨ad', hA', hlt', f0, f1, f2⟩ := (hm'.out.below hg).at_ (k := k) (by omega)
        subst hA hA'
        have hlt2 : (ad.add (k * 3)).block < wr.heap.size := by rw [block_of_add]; exact Nat.lt_of_lt_of_le hlt (Below.size hg)
        have hlt3 : (ad'.add (k * 3)).block < wr.heap.size := by rw [block_of_add]; exact Nat.lt_of_lt_of_le hlt' (Below.size hg)
        have hkm : k < m.length := by omega
        obtain ⟨q, hqe⟩ : ∃ q, (l[k] != m[k]) = q := ⟨_, rfl⟩
        replace hqe := Lib.hid hqe
        go_wp2
        refine region_grow (by kernel_rfl) (by kernel_rfl) ?_
        refine GW.mv rfl trivial (.inl rfl) (kn0 (t := 0) (c := .slice (some ad) l.length c) (by kernel_rfl) rfl) (eqv_lasts _) ?_
        refine GW.mv rfl trivial (.inl rfl) (kn0 (t := 5) (c := .int .i64 (k : Int)) (by kernel_rfl) rfl) (eqv_lasts _) ?_
        refine GW.p2 (.pointer (some (ad.add (k * 3)))) rfl trivial (kn (t := 16) (j := 0) (by kernel_rfl)) (kn (t := 17) (j := 1) (by kernel_rfl)) (fun ρ w' h1 h2 hg => by show ((Instr.indexAt 27 (ρ (.tmp 16)) (ρ (.tmp 17)) >>= fun v => pure (Next.value v)) : Sem Next).run Try.prog w' = _; rw [h1, h2, Sem.run_bind, run_idxR w' Try.underlying27 (size := 3) (by kernel_rfl) ad _ _ k h]; simp) ?_
        refine GW.p1 (.agg #[.int .u32 (n32 (l[k]).1), .int .u64 (n64 (l[k]).2.1), .int .u64 (n64 (l[k]).2.2)]) rfl trivial (kn (t := 18) (j := 2) (by kernel_rfl)) (fun ρ w' hρ hg => by simp [execOp, hρ, go_sem, (hg.cell (p := (ad.add (k * 3))) hlt2).trans e0, (hg.cell (p := ⟨(ad.add (k * 3)).block, (ad.add (k * 3)).off + 1, none⟩) hlt2).trans e1, (hg.cell (p := ⟨(ad.add (k * 3)).block, (ad.add (k * 3)).off + 2, none⟩) hlt2).trans e2]) ?_
        refine GW.mv rfl trivial (.inl rfl) (kn0 (t := 1) (c := .slice (some ad') m.length d) (by kernel_rfl) rfl) (eqv_lasts _) ?_
        refine GW.mv rfl trivial (.inl rfl) (kn0 (t := 5) (c := .int .i64 (k : Int)) (by kernel_rfl) rfl) (eqv_lasts _) ?_
        refine GW.p2 (.pointer (some (ad'.add (k * 3)))) rfl trivial (kn (t := 20) (j := 4) (by kernel_rfl)) (kn (t := 21) (j := 5) (by kernel_rfl)) (fun ρ w' h1 h2 hg => by show ((Instr.indexAt 27 (ρ (.tmp 20)) (ρ (.tmp 21)) >>= fun v => pure (Next.value v)) : Sem Next).run Try.prog w' = _; rw [h1, h2, Sem.run_bind, run_idxR w' Try.underlying27 (size := 3) (by kernel_rfl) ad' _ _ k hkm]; simp) ?_
        refine GW.p1 (.agg #[.int .u32 (n32 (m[k]).1), .int .u64 (n64 (m[k]).2.1), .int .u64 (n64 (m[k]).2.2)]) rfl trivial (kn (t := 22) (j := 6) (by kernel_rfl)) (fun ρ w' hρ hg => by simp [execOp, hρ, go_sem, (hg.cell (p := (ad'.add (k * 3))) hlt3).trans f0, (hg.cell (p := ⟨(ad'.add (k * 3)).block, (ad'.add (k * 3)).off + 1, none⟩) hlt3).trans f1, (hg.cell (p := ⟨(ad'.add (k * 3)).block, (ad'.add (k * 3)).off + 2, none⟩) hlt3).trans f2]) ?_
        refine GW.bin (.bool q) rfl trivial rfl (kn (t := 19) (j := 3) (by kernel_rfl)) (kn (t := 23) (j := 7) (by kernel_rfl)) (fun w' => by rw [(run_eql_sign _ (.inl rfl) l[k] m[k] _ _ w').2, hqe.out]) ?_
        refine GW.done (by simp) (by kernel_rfl) (fun w' hg_ => ?_)
        intro v0 _ v1 _ v2 _ v3 _ v4 _ v5 _ v6 _ v7 _ v8 h8
        obtain rfl : v8 = (.bool q) := h8
        simp only [GFin, Act.put, List.setIfInBounds_toArray, List.set_cons_succ, List.set_cons_zero]
        clear e0 e1 e2 f0 f1 f2
        cases q with
        | false =>
          have hte := Lib.hid (take_snoc_eq h hkm he.out (by simpa using hqe.out))
          go_wp2
          go_roundw
          case rel => exact ⟨k + 1, by omega, by go_num, hte, Gr.trans hg hg_⟩
          case measure => simp [intOf]; omega
        | true =>
          have hfa := Lib.hid (ne_at h hkm (by simpa using hqe.out))
          go_wp2
          go_ret
          exact ⟨ret_bool hfa.out.symm, Gr.trans hg hg_⟩
      · obtain rfl : k = l.length := by omega
        have hte := he.out
        rw [List.take_length, List.take_of_length_le (by omega)] at hte
        replace hte := Lib.hid hte
        go_wp2
        go_ret
        exact ⟨ret_bool (decide_eq_true hte.out).symm, hg⟩
  · have hfa : Hid (decide (l = m) = false) := Lib.hid (by rw [decide_eq_false_iff_not]; intro e; exact hn (by rw [e]))
    have hn' : ¬ (l.length : Int) = (m.length : Int) := by omega
    go_enter Try.func47, Try.ntmps47
    go_wp2
    go_ret
    exact ⟨ret_bool hfa.out.symm, Gr.refl w⟩
end Sg
end Go.Proofs.Ytcibngbgcnnjnaa
namespace Go.Proofs.Ytcibngbgcnnjnaa
open Go Go.RowKit W
namespace Sg
theorem rowTypeto : RowType Try.prog 33 3 24 := signRow
theorem rowTypefrom : RowType Try.prog 40 3 24 := refSignRow
theorem infoto (a b c d e f : Value) : (Try.prog.info? 35).map (·.size) = some (#[a, b, c, d, e, f] : Array Value).size := sigInfo a b c d e f
theorem infofrom (a b c d e f : Value) : (Try.prog.info? 45).map (·.size) = some (#[a, b, c, d, e, f] : Array Value).size := refSigInfo a b c d e f
abbrev sigZ0 : Array Value := #[.int .i64 0, .slice none 0 0, .int .i64 0, .int .u32 0, .int .u64 0, .int .u64 0]
def OutG (E : TypeId) (w : World) (s : Sig) : Ending → World → Prop := fun e w' => ∃ A c, e = .returned (sigV s A c) ∧ OS E w' w.heap.size (.slice A s.bs.length c) s.bs ∧ Gr w w'
theorem keep_blk {w a b : World} {g : Nat} (h : Kb g a b) (h1 : Gr w a) (h2 : w.heap.size ≤ g) : Gr w b :=
  ⟨h.os.trans h1.os, h.tape.trans h1.tape, h.output.trans h1.output, Nat.le_trans h1.size h.size, fun i hi => (World.grownBy.block h i (Nat.lt_of_lt_of_le hi h1.size) (fun e => by cases e; omega)).trans (h1.block i hi)⟩
set_option maxRecDepth 100000 in
set_option maxHeartbeats 4000000 in
theorem to_any (s : Sig) (A : Option Addr) (c : Nat) (w : World) (hl : SR w w.heap.size A s.bs) (hk40 : s.bs.length ≤ 1000000) :
    Calls Try.prog 23 #[sigV s A c] w (OutG 33 w s) := by
  obtain ⟨z, bs, t, x⟩ := s
  simp only at hl hk40
  have hl' := Lib.hid hl
  clear hl
  have b1 := Lib.hid (((Blk.new w 45 (sigC z (.slice A bs.length c) t x)).alloc (.cells sigZ0 35)).alloc (.cells (sigC z (.slice none 0 0) t x) 35))
  have b2 := Blk.new (w.alloc (.cells (sigC z (.slice A bs.length c) t x) 45)) 35 sigZ0
  have b3 := Blk.new ((w.alloc (.cells (sigC z (.slice A bs.length c) t x) 45)).alloc (.cells sigZ0 35)) 35 (sigC z (.slice none 0 0) t x)
  rw [World.size_alloc] at b2 b3
  rw [World.size_alloc] at b3
  replace b2 := Lib.hid (b2.alloc (.cells (sigC z (.slice none 0 0) t x) 35))
  replace b3 := Lib.hid b3
  have g1 := Lib.hid ((((Gr.refl w).alloc (.cells (sigC z (.slice A bs.length c) t x) 45)).alloc (.cells sigZ0 35)).alloc (.cells (sigC z (.slice none 0 0) t x) 35))
  go_enter Try.func23, Try.ntmps23
  go_wp2
  generalize ((w.alloc (.cells (sigC z (.slice A bs.length c) t x) 45)).alloc (.cells sigZ0 35)).alloc (.cells (sigC z (.slice none 0 0) t x) 35) = w1 at *
  have hs1 : w.heap.size + 1 + 1 < w1.heap.size := b3.out.lt
  go_loopw [4] (fun i wr => ∃ k : Nat, k ≤ bs.length ∧ i = .int .i64 (k : Int) ∧ Kb (w.heap.size + 1 + 1) w1 wr ∧ (∃ A0 c0, Blk wr (w.heap.size + 1 + 1) 35 (sigC z (.slice A0 k c0) t x) ∧ OR 33 3 wr w1.heap.size (.slice A0 k c0) k (scs (bs.take k)))) (fun i _ => bs.length - (intOf i).toNat)
  case atStart => exact ⟨0, by omega, rfl, Kb.refl _ _, none, 0, b3.out, World.ownsRow_nil _ _ _ _⟩
  case round =>
    obtain ⟨k, hk, rfl, hkb, A0, c0, bo, ho⟩ := hrel
    have bs1 := Lib.hid (hkb.blk b1.out (by omega))
    have y1 := bs1.out.cell 1
    have hWw : w1.heap.size ≤ wr.heap.size := hkb.size
    have hWr : Below w.heap.size w wr := keep_blk hkb g1.out (by omega)
    by_cases h : k < bs.length
    · obtain ⟨ad, hA, hlt, e0, e1, e2⟩ := (hl'.out.below hWr).at_ h
      subst hA
      have ht := Lib.hid (scs_take bs k h)
      generalize bs[k] = y at *
      have hlt2 : (ad.add (k * 3)).block < wr.heap.size := by rw [block_of_add]; omega
      have bo := Lib.hid bo
      have hkb := Lib.hid hkb
      have hWr := Lib.hid hWr
      go_wp2
      refine region_grow (by kernel_rfl) (by kernel_rfl) ?_
      refine GW.p1 (.pointer (some ⟨w.heap.size + 1 + 1, 1, none⟩)) rfl trivial (kn0 (t := 3) (c := .pointer (some ⟨w.heap.size + 1 + 1, 0, none⟩)) (by kernel_rfl) rfl) (fun ρ w' hρ hg => by simp [execOp, hρ, go_sem]) ?_
      refine GW.p1 (.slice A0 k c0) rfl trivial (kn (t := 24) (j := 0) (by kernel_rfl)) (fun ρ w' hρ hg => by simp [execOp, hρ, go_sem, (hg.cell (p := ⟨w.heap.size + 1 + 1, 1, none⟩) bo.out.lt).trans (bo.out.cell 1)]) ?_
      refine GW.p1 (.pointer (some ⟨w.heap.size, 1, none⟩)) rfl trivial (kn0 (t := 1) (c := .pointer (some ⟨w.heap.size, 0, none⟩)) (by kernel_rfl) rfl) (fun ρ w' hρ hg => by simp [execOp, hρ, go_sem]) ?_
      refine GW.p1 (.slice (some ad) bs.length c) rfl trivial (kn (t := 26) (j := 2) (by kernel_rfl)) (fun ρ w' hρ hg => by simp [execOp, hρ, go_sem, (hg.cell (p := ⟨w.heap.size, 1, none⟩) bs1.out.lt).trans (bs1.out.cell 1)]) ?_
      refine GW.mv rfl trivial (.inl rfl) (kn0 (t := 4) (c := .int .i64 (k : Int)) (by kernel_rfl) rfl) (eqv_lasts _) ?_
      refine GW.p2 (.pointer (some (ad.add (k * 3)))) rfl trivial (kn (t := 27) (j := 3) (by kernel_rfl)) (kn (t := 28) (j := 4) (by kernel_rfl)) (fun ρ w' h1 h2 hg => by show ((Instr.indexAt 43 (ρ (.tmp 27)) (ρ (.tmp 28)) >>= fun v => pure (Next.value v)) : Sem Next).run Try.prog w' = _; rw [h1, h2, Sem.run_bind, run_idxR w' Try.underlying43 (size := 3) (by kernel_rfl) ad _ _ k h]; simp) ?_
      refine GW.p1 (.pointer (some (ad.add (k * 3)))) rfl trivial (kn (t := 29) (j := 5) (by kernel_rfl)) (fun ρ w' hρ hg => by simp [execOp, hρ, go_sem]) ?_
      refine GW.p1 (.int .u32 (n32 y.1)) rfl trivial (kn (t := 30) (j := 6) (by kernel_rfl)) (fun ρ w' hρ hg => by simp [execOp, hρ, go_sem, (hg.cell (p := (ad.add (k * 3))) hlt2).trans e0]) ?_
      refine GW.p1 (.pointer (some ⟨w.heap.size, 1, none⟩)) rfl trivial (kn0 (t := 1) (c := .pointer (some ⟨w.heap.size, 0, none⟩)) (by kernel_rfl) rfl) (fun ρ w' hρ hg => by simp [execOp, hρ, go_sem]) ?_
      refine GW.p1 (.slice (some ad) bs.length c) rfl trivial (kn (t := 32) (j := 8) (by kernel_rfl)) (fun ρ w' hρ hg => by simp [execOp, hρ, go_sem, (hg.cell (p := ⟨w.heap.size, 1, none⟩) bs1.out.lt).trans (bs1.out.cell 1)]) ?_
      refine GW.mv rfl trivial (.inl rfl) (kn0 (t := 4) (c := .int .i64 (k : Int)) (by kernel_rfl) rfl) (eqv_lasts _) ?_
      refine GW.p2 (.pointer (some (ad.add (k * 3)))) rfl trivial (kn (t := 33) (j := 9) (by kernel_rfl)) (kn (t := 34) (j := 10) (by kernel_rfl)) (fun ρ w' h1 h2 hg => by show ((Instr.indexAt 43 (ρ (.tmp 33)) (ρ (.tmp 34)) >>= fun v => pure (Next.value v)) : Sem Next).run Try.prog w' = _; rw [h1, h2, Sem.run_bind, run_idxR w' Try.underlying43 (size := 3) (by kernel_rfl) ad _ _ k h]; simp) ?_
      refine GW.p1 (.pointer (some ⟨(ad.add (k * 3)).block, (ad.add (k * 3)).off + 1, none⟩)) rfl trivial (kn (t := 35) (j := 11) (by kernel_rfl)) (fun ρ w' hρ hg => by simp [execOp, hρ, go_sem]) ?_
      refine GW.p1 (.agg #[.int .u64 (n64 y.2.1), .int .u64 (n64 y.2.2)]) rfl trivial (kn (t := 36) (j := 12) (by kernel_rfl)) (fun ρ w' hρ hg => by simp [execOp, hρ, go_sem, (hg.cell (p := ⟨(ad.add (k * 3)).block, (ad.add (k * 3)).off + 1, none⟩) hlt2).trans e1, (hg.cell (p := ⟨(ad.add (k * 3)).block, (ad.add (k * 3)).off + 2, none⟩) hlt2).trans e2, Nat.add_assoc]) ?_
      refine GW.build #[(0, .int .u32 (n32 y.1)), (1, .agg #[.int .u64 (n64 y.2.1), .int .u64 (n64 y.2.2)])] (sV y) rfl trivial rfl ⟨rfl, (kn (t := 31) (j := 7) (by kernel_rfl)), rfl, (kn (t := 37) (j := 13) (by kernel_rfl)), trivial⟩ (fun w => by kernel_rfl) ?_
      refine GW.row1 (E := 33) #[.int .u32 (n32 y.1), .int .u64 (n64 y.2.1), .int .u64 (n64 y.2.2)] rfl rfl trivial rfl (kn (t := 38) (j := 14) (by kernel_rfl)) (fun w => by kernel_rfl) ?_
      refine GW.tailT (m := 16) (by simp) (by kernel_rfl) (by kernel_rfl) (fun w' hg_ => ?_)
      intro v0 _ v1 h1 v2 _ v3 _ v4 _ v5 _ v6 _ v7 _ v8 _ v9 _ v10 _ v11 _ v12 _ v13 _ v14 _ v15 h15
      obtain rfl : v1 = (.slice A0 k c0) := h1
      simp only [GFin, List.take_succ_cons, List.take_zero, List.drop_succ_cons, List.drop_zero, Act.put, List.setIfInBounds_toArray, List.set_cons_succ, List.set_cons_zero]
      obtain ⟨A5, c5, rfl, r5⟩ := h15
      have oL := Lib.hid (OR.below ho hg_)
      have r5 := Lib.hid r5
      have m3 := Lib.hid (blk_more bo.out hg_)
      have hsz := Below.size hg_
      have hk2 := Lib.hid (hkb.out.gr hg_)
      clear ho hg_ e0 e1 e2 y1 bs1 bo hWr hkb
      go_wp2_with (first
        | ((with_reducible refine wpList_isApp (.tmp 25) (.tmp 39) 27 rfl ?_); refine wpList_append_rowsN (v := .slice A0 k c0) rfl (.tmp 25) (.tmp 39) 27 rfl Try.underlying27 rowTypeto rfl (by exact oL.out) w'.heap.size A5 1 c5 (scs [y]) rfl (by exact r5.out) (scs_one_cell _) (by unfold maxLen; omega) (by omega) (by omega) (scs (bs.take (k + 1))) ht.out (k + 1) rfl ?_; intro A9 c9 w9 o9 b9; have m9 := Lib.hid (m3.out.below b9 hs1); have f9 := m9.out.frozen 1; have y9 := m9.out.cell 1; have k9 := Lib.hid (hk2.out.to b9 (Nat.le_refl _)); replace o9 := Lib.hid o9; clear oL r5 b9 hk2 m3))
      go_roundw
      case rel => exact ⟨k + 1, by omega, by go_num, k9.out.set 1 _, A9, c9, m9.out.set_ 1 _, OR.setFar o9.out hs1 _⟩
      case measure => simp [intOf]; omega
    · obtain rfl : k = bs.length := by omega
      rw [List.take_length] at ho
      replace ho := Lib.hid ho
      have bo := Lib.hid bo
      have br := Lib.hid (hkb.blk b2.out (by omega))
      have hWr := Lib.hid hWr
      clear b1 b2 b3 bs1 g1 hkb
      go_wp2_with (first
        | ((with_reducible refine wpList_isLoad 35 (.tmp 3) rfl ?_); refine wpList_load_row rfl 35 (.tmp 3) rfl (w.heap.size + 1 + 1) rfl 35 _ (0, 0) _ bo.out Try.underlying35 rfl (infoto _ _ _ _ _ _) ?_)
        | ((with_reducible refine wpList_isStore 35 (.tmp 2) (.tmp 42) rfl ?_); refine wpList_store_blk rfl 35 (.tmp 2) (.tmp 42) rfl (w.heap.size + 1) _ rfl rfl 35 sigZ0 br.out (infoto _ _ _ _ _ _) rfl (by simp [Value.oneCell']) ?_; intro w9 n9 k9 z9; replace n9 := Lib.hid n9; replace k9 := Lib.hid k9; replace z9 := Lib.hid z9))
      refine bodyPost_ret (results_cell_row Try.results23 _ _ (w.heap.size + 1) 35 _ (0, 0) _ rfl n9.out Try.underlying35 rfl (infoto _ _ _ _ _ _)) rfl ?_
      exact ⟨A0, c0, rfl, OR.base_le (os_kb ho.out k9.out (by omega)) (by omega), keep_blk k9.out hWr.out (by omega)⟩
set_option maxRecDepth 100000 in
set_option maxHeartbeats 4000000 in
theorem from_any (s : Sig) (A : Option Addr) (c : Nat) (w : World) (hl : SR w w.heap.size A s.bs) (hk40 : s.bs.length ≤ 1000000) :
    Calls Try.prog 15 #[sigV s A c] w (OutG 40 w s) := by
  obtain ⟨z, bs, t, x⟩ := s
  simp only at hl hk40
  have hl' := Lib.hid hl
  clear hl
  have b1 := Lib.hid (((Blk.new w 35 (sigC z (.slice A bs.length c) t x)).alloc (.cells sigZ0 45)).alloc (.cells (sigC z (.slice none 0 0) t x) 45))
  have b2 := Blk.new (w.alloc (.cells (sigC z (.slice A bs.length c) t x) 35)) 45 sigZ0
  have b3 := Blk.new ((w.alloc (.cells (sigC z (.slice A bs.length c) t x) 35)).alloc (.cells sigZ0 45)) 45 (sigC z (.slice none 0 0) t x)
  rw [World.size_alloc] at b2 b3
  rw [World.size_alloc] at b3
  replace b2 := Lib.hid (b2.alloc (.cells (sigC z (.slice none 0 0) t x) 45))
  replace b3 := Lib.hid b3
  have g1 := Lib.hid ((((Gr.refl w).alloc (.cells (sigC z (.slice A bs.length c) t x) 35)).alloc (.cells sigZ0 45)).alloc (.cells (sigC z (.slice none 0 0) t x) 45))
  go_enter Try.func15, Try.ntmps15
  go_wp2
  generalize ((w.alloc (.cells (sigC z (.slice A bs.length c) t x) 35)).alloc (.cells sigZ0 45)).alloc (.cells (sigC z (.slice none 0 0) t x) 45) = w1 at *
  have hs1 : w.heap.size + 1 + 1 < w1.heap.size := b3.out.lt
  go_loopw [4] (fun i wr => ∃ k : Nat, k ≤ bs.length ∧ i = .int .i64 (k : Int) ∧ Kb (w.heap.size + 1 + 1) w1 wr ∧ (∃ A0 c0, Blk wr (w.heap.size + 1 + 1) 45 (sigC z (.slice A0 k c0) t x) ∧ OR 40 3 wr w1.heap.size (.slice A0 k c0) k (scs (bs.take k)))) (fun i _ => bs.length - (intOf i).toNat)
  case atStart => exact ⟨0, by omega, rfl, Kb.refl _ _, none, 0, b3.out, World.ownsRow_nil _ _ _ _⟩
  case round =>
    obtain ⟨k, hk, rfl, hkb, A0, c0, bo, ho⟩ := hrel
    have bs1 := Lib.hid (hkb.blk b1.out (by omega))
    have y1 := bs1.out.cell 1
    have hWw : w1.heap.size ≤ wr.heap.size := hkb.size
    have hWr : Below w.heap.size w wr := keep_blk hkb g1.out (by omega)
    by_cases h : k < bs.length
    · obtain ⟨ad, hA, hlt, e0, e1, e2⟩ := (hl'.out.below hWr).at_ h
      subst hA
      have ht := Lib.hid (scs_take bs k h)
      generalize bs[k] = y at *
      have hlt2 : (ad.add (k * 3)).block < wr.heap.size := by rw [block_of_add]; omega
      have bo := Lib.hid bo
      have hkb := Lib.hid hkb
      have hWr := Lib.hid hWr
      go_wp2
      refine region_grow (by kernel_rfl) (by kernel_rfl) ?_
      refine GW.p1 (.pointer (some ⟨w.heap.size + 1 + 1, 1, none⟩)) rfl trivial (kn0 (t := 3) (c := .pointer (some ⟨w.heap.size + 1 + 1, 0, none⟩)) (by kernel_rfl) rfl) (fun ρ w' hρ hg => by simp [execOp, hρ, go_sem]) ?_
      refine GW.p1 (.slice A0 k c0) rfl trivial (kn (t := 24) (j := 0) (by kernel_rfl)) (fun ρ w' hρ hg => by simp [execOp, hρ, go_sem, (hg.cell (p := ⟨w.heap.size + 1 + 1, 1, none⟩) bo.out.lt).trans (bo.out.cell 1)]) ?_
      refine GW.p1 (.pointer (some ⟨w.heap.size, 1, none⟩)) rfl trivial (kn0 (t := 1) (c := .pointer (some ⟨w.heap.size, 0, none⟩)) (by kernel_rfl) rfl) (fun ρ w' hρ hg => by simp [execOp, hρ, go_sem]) ?_
      refine GW.p1 (.slice (some ad) bs.length c) rfl trivial (kn (t := 26) (j := 2) (by kernel_rfl)) (fun ρ w' hρ hg => by simp [execOp, hρ, go_sem, (hg.cell (p := ⟨w.heap.size, 1, none⟩) bs1.out.lt).trans (bs1.out.cell 1)]) ?_
      refine GW.mv rfl trivial (.inl rfl) (kn0 (t := 4) (c := .int .i64 (k : Int)) (by kernel_rfl) rfl) (eqv_lasts _) ?_
      refine GW.p2 (.pointer (some (ad.add (k * 3)))) rfl trivial (kn (t := 27) (j := 3) (by kernel_rfl)) (kn (t := 28) (j := 4) (by kernel_rfl)) (fun ρ w' h1 h2 hg => by show ((Instr.indexAt 27 (ρ (.tmp 27)) (ρ (.tmp 28)) >>= fun v => pure (Next.value v)) : Sem Next).run Try.prog w' = _; rw [h1, h2, Sem.run_bind, run_idxR w' Try.underlying27 (size := 3) (by kernel_rfl) ad _ _ k h]; simp) ?_
      refine GW.p1 (.pointer (some (ad.add (k * 3)))) rfl trivial (kn (t := 29) (j := 5) (by kernel_rfl)) (fun ρ w' hρ hg => by simp [execOp, hρ, go_sem]) ?_
      refine GW.p1 (.int .u32 (n32 y.1)) rfl trivial (kn (t := 30) (j := 6) (by kernel_rfl)) (fun ρ w' hρ hg => by simp [execOp, hρ, go_sem, (hg.cell (p := (ad.add (k * 3))) hlt2).trans e0]) ?_
      refine GW.p1 (.pointer (some ⟨w.heap.size, 1, none⟩)) rfl trivial (kn0 (t := 1) (c := .pointer (some ⟨w.heap.size, 0, none⟩)) (by kernel_rfl) rfl) (fun ρ w' hρ hg => by simp [execOp, hρ, go_sem]) ?_
      refine GW.p1 (.slice (some ad) bs.length c) rfl trivial (kn (t := 32) (j := 8) (by kernel_rfl)) (fun ρ w' hρ hg => by simp [execOp, hρ, go_sem, (hg.cell (p := ⟨w.heap.size, 1, none⟩) bs1.out.lt).trans (bs1.out.cell 1)]) ?_
      refine GW.mv rfl trivial (.inl rfl) (kn0 (t := 4) (c := .int .i64 (k : Int)) (by kernel_rfl) rfl) (eqv_lasts _) ?_
      refine GW.p2 (.pointer (some (ad.add (k * 3)))) rfl trivial (kn (t := 33) (j := 9) (by kernel_rfl)) (kn (t := 34) (j := 10) (by kernel_rfl)) (fun ρ w' h1 h2 hg => by show ((Instr.indexAt 27 (ρ (.tmp 33)) (ρ (.tmp 34)) >>= fun v => pure (Next.value v)) : Sem Next).run Try.prog w' = _; rw [h1, h2, Sem.run_bind, run_idxR w' Try.underlying27 (size := 3) (by kernel_rfl) ad _ _ k h]; simp) ?_
      refine GW.p1 (.pointer (some ⟨(ad.add (k * 3)).block, (ad.add (k * 3)).off + 1, none⟩)) rfl trivial (kn (t := 35) (j := 11) (by kernel_rfl)) (fun ρ w' hρ hg => by simp [execOp, hρ, go_sem]) ?_
      refine GW.p1 (.agg #[.int .u64 (n64 y.2.1), .int .u64 (n64 y.2.2)]) rfl trivial (kn (t := 36) (j := 12) (by kernel_rfl)) (fun ρ w' hρ hg => by simp [execOp, hρ, go_sem, (hg.cell (p := ⟨(ad.add (k * 3)).block, (ad.add (k * 3)).off + 1, none⟩) hlt2).trans e1, (hg.cell (p := ⟨(ad.add (k * 3)).block, (ad.add (k * 3)).off + 2, none⟩) hlt2).trans e2, Nat.add_assoc]) ?_
      refine GW.build #[(0, .int .u32 (n32 y.1)), (1, .agg #[.int .u64 (n64 y.2.1), .int .u64 (n64 y.2.2)])] (sV y) rfl trivial rfl ⟨rfl, (kn (t := 31) (j := 7) (by kernel_rfl)), rfl, (kn (t := 37) (j := 13) (by kernel_rfl)), trivial⟩ (fun w => by kernel_rfl) ?_
      refine GW.row1 (E := 40) #[.int .u32 (n32 y.1), .int .u64 (n64 y.2.1), .int .u64 (n64 y.2.2)] rfl rfl trivial rfl (kn (t := 38) (j := 14) (by kernel_rfl)) (fun w => by kernel_rfl) ?_
      refine GW.tailT (m := 16) (by simp) (by kernel_rfl) (by kernel_rfl) (fun w' hg_ => ?_)
      intro v0 _ v1 h1 v2 _ v3 _ v4 _ v5 _ v6 _ v7 _ v8 _ v9 _ v10 _ v11 _ v12 _ v13 _ v14 _ v15 h15
      obtain rfl : v1 = (.slice A0 k c0) := h1
      simp only [GFin, List.take_succ_cons, List.take_zero, List.drop_succ_cons, List.drop_zero, Act.put, List.setIfInBounds_toArray, List.set_cons_succ, List.set_cons_zero]
      obtain ⟨A5, c5, rfl, r5⟩ := h15
      have oL := Lib.hid (OR.below ho hg_)
      have r5 := Lib.hid r5
      have m3 := Lib.hid (blk_more bo.out hg_)
      have hsz := Below.size hg_
      have hk2 := Lib.hid (hkb.out.gr hg_)
      clear ho hg_ e0 e1 e2 y1 bs1 bo hWr hkb
      go_wp2_with (first
        | ((with_reducible refine wpList_isApp (.tmp 25) (.tmp 39) 43 rfl ?_); refine wpList_append_rowsN (v := .slice A0 k c0) rfl (.tmp 25) (.tmp 39) 43 rfl Try.underlying43 rowTypefrom rfl (by exact oL.out) w'.heap.size A5 1 c5 (scs [y]) rfl (by exact r5.out) (scs_one_cell _) (by unfold maxLen; omega) (by omega) (by omega) (scs (bs.take (k + 1))) ht.out (k + 1) rfl ?_; intro A9 c9 w9 o9 b9; have m9 := Lib.hid (m3.out.below b9 hs1); have f9 := m9.out.frozen 1; have y9 := m9.out.cell 1; have k9 := Lib.hid (hk2.out.to b9 (Nat.le_refl _)); replace o9 := Lib.hid o9; clear oL r5 b9 hk2 m3))
      go_roundw
      case rel => exact ⟨k + 1, by omega, by go_num, k9.out.set 1 _, A9, c9, m9.out.set_ 1 _, OR.setFar o9.out hs1 _⟩
      case measure => simp [intOf]; omega
    · obtain rfl : k = bs.length := by omega
      rw [List.take_length] at ho
      replace ho := Lib.hid ho
      have bo := Lib.hid bo
      have br := Lib.hid (hkb.blk b2.out (by omega))
      have hWr := Lib.hid hWr
      clear b1 b2 b3 bs1 g1 hkb
      go_wp2_with (first
        | ((with_reducible refine wpList_isLoad 45 (.tmp 3) rfl ?_); refine wpList_load_row rfl 45 (.tmp 3) rfl (w.heap.size + 1 + 1) rfl 45 _ (0, 0) _ bo.out Try.underlying45 rfl (infofrom _ _ _ _ _ _) ?_)
        | ((with_reducible refine wpList_isStore 45 (.tmp 2) (.tmp 42) rfl ?_); refine wpList_store_blk rfl 45 (.tmp 2) (.tmp 42) rfl (w.heap.size + 1) _ rfl rfl 45 sigZ0 br.out (infofrom _ _ _ _ _ _) rfl (by simp [Value.oneCell']) ?_; intro w9 n9 k9 z9; replace n9 := Lib.hid n9; replace k9 := Lib.hid k9; replace z9 := Lib.hid z9))
      refine bodyPost_ret (results_cell_row Try.results15 _ _ (w.heap.size + 1) 45 _ (0, 0) _ rfl n9.out Try.underlying45 rfl (infofrom _ _ _ _ _ _)) rfl ?_
      exact ⟨A0, c0, rfl, OR.base_le (os_kb ho.out k9.out (by omega)) (by omega), keep_blk k9.out hWr.out (by omega)⟩
end Sg
end Go.Proofs.Ytcibngbgcnnjnaa
namespace Go.Proofs.Ytcibngbgcnnjnaa
open Go Go.RowKit W Bl Vint
/-- A call of a Go function as one step of a region that draws. -/
theorem step_call1 {P : Program} {ops : Array Oper} {o : Oper} {a : Act} {w : World} {K : Act → World → Prop} {Q : Exit → Act → World → Prop} {E' : Prop} (hgd : o.guard = none) (x : Operand) (f : FuncId) (fn : Func) (ats : Array TypeId)
    (ho : o.op = .call { callee := .value (.func f), args := #[x], argTypes := ats }) (hf : P.funcs[f]? = some fn) (hn : (fn.name == "runtime.NumGoroutine") = false) (hb : fn.body.isNone = false)
    (v : Value) (hx : a.eval x = v) (R : Value → World → Prop) (hc : Calls P f #[v] w fun e w' => ∃ u, e = .returned u ∧ R u w') (h : ∀ u w', R u w' → K (a.put o.dst u) w') :
    if Region.wanted o (yielded ops a.tmps) = true then Oper.wp P o a w K Q else E' := by
  have hw : Region.wanted o (yielded ops a.tmps) = true := by simp [Region.wanted, hgd]
  rw [if_pos hw]
  have e : execOp a.eval o = callFunc f (#[] ++ #[x].map a.eval ++ #[]) := by
    obtain ⟨dst, op, ty, pos, after, guard⟩ := o
    simp only at ho
    subst ho
    rfl
  unfold Oper.wp
  rw [e, run_callFunc_enter hf hn hb]
  simp only [List.map_toArray, List.map_cons, List.map_nil, hx]
  refine Calls.mono hc ?_
  rintro e w' ⟨u, rfl, hr⟩
  exact h u w' hr
theorem Vint.Rdr.setFar {w : World} {g b : Nat} {s : RS} (h : Vint.Rdr w g s) (hb : g < b) (i : Nat) (u : Value) : Vint.Rdr (w.setCell ⟨b, i, none⟩ u) g s := by
  obtain ⟨A, cc, q1, q2, q3, q4⟩ := h
  exact ⟨A, cc, q1.far (p := ⟨b, i, none⟩) (by show g ≠ b; omega) _, q2.setCell (p := ⟨b, i, none⟩) (by show g ≤ b; omega) _, q3, q4⟩
theorem Vint.Rdr.below' {w w' : World} {g B : Nat} {s : RS} (h : Vint.Rdr w g s) (hb : Below B w w') (hg : g < B) : Vint.Rdr w' g s := by
  obtain ⟨A, c, h1, h2, h3, h4⟩ := h
  exact ⟨A, c, h1.below hb hg, h2.below (Below.mono hb (by omega)), h3, h4⟩
namespace Sg
theorem kb_new {g n : Nat} {a b c : World} (h : Kb g a b) (k : Kb n b c) (hn : a.heap.size ≤ n) : Kb g a c :=
  ⟨k.os.trans h.os, k.tape.trans h.tape, k.output.trans h.output, Nat.le_trans h.size k.size, fun i hi hne => (World.grownBy.block k i (Nat.lt_of_lt_of_le hi h.size) (fun e => by cases e; omega)).trans (World.grownBy.block h i hi hne)⟩
/-- The reader's own block is written, and block b behind it. -/
theorem rdr_kb {w w' : World} {g b : Nat} {s : RS} (h : Vint.Rdr w g s) (hk : Kb b w w') (hb : g < b) : Vint.Rdr w' g s := Vint.Rdr.other h hk hb
set_option maxRecDepth 100000 in
set_option maxHeartbeats 4000000 in
theorem one_any (g : Nat) (r : RS) (w : World) (hR : Vint.Rdr w g r) :
    Calls Try.prog 36 #[.pointer (some ⟨g, 0, none⟩)] w fun e w' => e = .returned (sV (one r).2) ∧ Vint.Rdr w' g (one r).1 ∧ Kb g w w' := by
  have hlt := hR.lt
  have hR1 := hR.gr ((Gr.refl w).alloc (.cells #[.int .u32 0, .int .u64 0, .int .u64 0] 33))
  have b1 := Lib.hid (Blk.new w 33 #[.int .u32 0, .int .u64 0, .int .u64 0])
  have k1 := Lib.hid (Kb.of_gr (g := g) ((Gr.refl w).alloc (.cells #[.int .u32 0, .int .u64 0, .int .u64 0] 33)))
  have hn := Lib.hid (show Calls Try.prog 55 #[.pointer (some ⟨g, 0, none⟩), .int .u64 4294967295] _ fun e w' => e = .returned (.int .u64 (n64 (UInt64.ofNat (get r 4294967295).2))) ∧ Vint.Rdr w' g (get r 4294967295).1 ∧ Kb g _ w' from rnum_any g r 4294967295 _ hR1)
  obtain ⟨q, hq⟩ : ∃ q, q = one r := ⟨_, rfl⟩
  rw [← hq]
  unfold one at hq
  clear hR1 hR
  generalize get r 4294967295 = p at *
  obtain ⟨s2, m⟩ := p
  simp only at hq
  have hm32 : (UInt64.ofNat m).toUInt32 = UInt32.ofNat m := by simp
  go_enter Try.func36, Try.ntmps36
  go_wp2_with fail
  go_at_call 55
  refine hn.out.mono ?_
  rintro e w2 ⟨rfl, R2, q2⟩
  try simp only at R2
  have hs2 := q2.size
  rw [World.size_alloc] at hs2
  have b2 := Lib.hid (q2.blk b1.out (by omega))
  have K2 := Lib.hid (k1.out.trans q2)
  have hsu := Lib.hid (rsum_any g s2 w2 R2)
  clear hn b1 k1 R2 q2
  generalize getSum s2 = p at *
  obtain ⟨s3, y, z⟩ := p
  simp only at hq hsu
  go_wp2_with fail
  go_at_call 56
  refine hsu.out.mono ?_
  rintro e w3 ⟨rfl, R3, q3⟩
  have b3 := Lib.hid (q3.blk b2.out (by omega))
  have K3 := Lib.hid (K2.out.trans q3)
  have R3' := Lib.hid R3
  clear hsu b2 K2 R3 q3
  subst hq
  go_wp2_with (first
    | ((with_reducible refine wpList_isStore 33 (.tmp 2) (.tmp 10) rfl ?_); refine wpList_store_blk rfl 33 (.tmp 2) (.tmp 10) rfl w.heap.size #[.int .u32 (n32 (UInt32.ofNat m)), .int .u64 (n64 y), .int .u64 (n64 z)] rfl rfl 33 #[.int .u32 0, .int .u64 0, .int .u64 0] b3.out (signInfo _ _ _) rfl (by simp [Value.oneCell']) ?_; intro w4 n4 k4 z4; have x0 := n4.cell 0; have x1 := n4.cell 1; have x2 := n4.cell 2; have R4 := Lib.hid (rdr_kb R3'.out k4 hlt); have K4 := Lib.hid (kb_new K3.out k4 (Nat.le_refl _)); clear n4 k4 z4))
  exact bodyPost_ret (v := sV (UInt32.ofNat m, y, z)) (by simp [results, Try.results36, go_sem, x0, x1, x2]) rfl ⟨rfl, R4.out, K4.out⟩
set_option maxRecDepth 100000 in
set_option maxHeartbeats 4000000 in
theorem short_any (g : Nat) (r : RS) (w : World) (hR : Vint.Rdr w g r) :
    Calls Try.prog 37 #[.pointer (some ⟨g, 0, none⟩)] w fun e w' => e = .returned (.int .i64 (short r : Int)) ∧ w = w' := by
  have he := Lib.hid (end_any g r w hR)
  obtain ⟨q, hq⟩ : ∃ q, q = short r := ⟨_, rfl⟩
  rw [← hq]
  unfold short at hq
  clear hR
  generalize ended r = n at *
  by_cases h : n = 0
  · rw [if_neg (by simpa using h)] at hq
    subst h
    go_enter Try.func37, Try.ntmps37
    go_wp2_with fail
    go_at_call 38
    refine he.out.mono ?_
    rintro e w1 ⟨rfl, rfl⟩
    go_wp2
    go_ret
    exact ⟨by rw [hq]; rfl, rfl⟩
  · rw [if_pos h] at hq
    have h1 : ((n : Int) == 0) = false := by simp [h]
    go_enter Try.func37, Try.ntmps37
    go_wp2_with fail
    go_at_call 38
    refine he.out.mono ?_
    rintro e w1 ⟨rfl, rfl⟩
    go_wp2
    go_ret
    exact ⟨by rw [hq]; rfl, rfl⟩
end Sg
end Go.Proofs.Ytcibngbgcnnjnaa
namespace Go.Proofs.Ytcibngbgcnnjnaa
open Go Go.RowKit W Bl Vint
namespace Sg
abbrev sigZ1 : Array Value := #[.int .i64 0, .slice none 0 0, .int .i64 0, .int .u32 0, .int .u64 0, .int .u64 0]
/-- While a signature is read. -/
structure GS (w : World) (r2 g s5 : Nat) (st : RS) (cells : Array Value) (A0 : Option Addr) (c0 : Nat) (out : List Sign) (W : World) : Prop where
  rdr : Vint.Rdr W g st
  bs : Blk W s5 35 cells
  os : OS 33 W (s5 + 1) (.slice A0 out.length c0) out
  br : Blk W r2 35 sigZ1
  bel : Below w.heap.size w W
structure GO (w : World) (r2 g s5 : Nat) : Prop where
  h1 : w.heap.size ≤ r2
  h2 : r2 < g
  h3 : g < s5
section
variable {w W W' : World} {r2 g s5 : Nat} {st st' : RS} {cells : Array Value} {A0 : Option Addr} {c0 : Nat} {out : List Sign}
theorem below_kb' {w X Y : World} {b : Nat} (h : Below w.heap.size w X) (k : Kb b X Y) (hb : w.heap.size ≤ b) : Below w.heap.size w Y :=
  ⟨k.os.trans h.os, k.tape.trans h.tape, k.output.trans h.output, Nat.le_trans h.size k.size, fun i hi => (World.grownBy.block k i (Nat.lt_of_lt_of_le hi h.size) (fun e => by cases e; omega)).trans (h.block i hi)⟩
theorem GS.kb (h : GS w r2 g s5 st cells A0 c0 out W) (o : GO w r2 g s5) (k : Kb g W W') (hr : Vint.Rdr W' g st') : GS w r2 g s5 st' cells A0 c0 out W' :=
  ⟨hr, k.blk h.bs (by have := o.h3; omega), os_kb h.os k (by have := o.h3; omega), k.blk h.br (by have := o.h2; omega), below_kb' h.bel k (by have := o.h1; have := o.h2; omega)⟩
theorem GS.set (h : GS w r2 g s5 st cells A0 c0 out W) (o : GO w r2 g s5) (i : Nat) (u : Value) : GS w r2 g s5 st (cells.setIfInBounds i u) A0 c0 out (W.setCell ⟨s5, i, none⟩ u) :=
  ⟨h.rdr.setFar o.h3 i u, h.bs.set_ i u, os_kb h.os ((Kb.refl s5 W).set i u) (by omega), h.br.far (p := ⟨s5, i, none⟩) (by have := o.h2; have := o.h3; show r2 ≠ s5; omega) u, below_kb' h.bel ((Kb.refl s5 W).set i u) (by have := o.h1; have := o.h2; have := o.h3; omega)⟩
theorem GS.gr (h : GS w r2 g s5 st cells A0 c0 out W) (k : Gr W W') : GS w r2 g s5 st cells A0 c0 out W' :=
  ⟨h.rdr.gr k, blk_more h.bs k, OS.below h.os k, blk_more h.br k, Below.trans h.bel (Below.mono k h.bel.size)⟩
theorem GS.cellG (h : GS w r2 g s5 st cells A0 c0 out W) (i : Nat) : W.cell? ⟨s5, i, none⟩ = cells[i]? := h.bs.cell i
end
theorem kb_drew {g : Nat} {w w' : World} (h : Kb g w.drew w') : Kb g w w' := ⟨h.os, h.tape, h.output, h.size, h.block⟩
theorem one_call (g : Nat) (r : RS) (w : World) (hR : Vint.Rdr w g r) :
    Calls Try.prog 36 #[.pointer (some ⟨g, 0, none⟩)] w fun e w' => ∃ u, e = .returned u ∧ (u = sV (one r).2 ∧ Vint.Rdr w' g (one r).1 ∧ Kb g w w') :=
  (one_any g r w hR).mono fun e w' ⟨h1, h2, h3⟩ => ⟨_, h1, rfl, h2, h3⟩
/-- Behind an append and a store of the slice. -/
theorem GS.app {w : World} {r2 g s5 : Nat} {st : RS} {z : Int} {A0 : Option Addr} {c0 : Nat} {out : List Sign} {W W' : World} {A9 : Option Addr} {c9 : Nat} {x : Sign} {n : Nat} {u : Value} (S : GS w r2 g s5 st (sigC z u 0 zero) A0 c0 out W) (o : GO w r2 g s5)
    (hb : Below (s5 + 1) W W') (ho : OR 33 3 W' (s5 + 1) (.slice A9 n c9) n (scs (out ++ [x]))) (hn : n = (out ++ [x]).length) :
    GS w r2 g s5 st (sigC z (.slice A9 n c9) 0 zero) A9 c9 (out ++ [x]) (W'.setCell ⟨s5, 1, none⟩ (.slice A9 n c9)) := by
  subst hn
  refine ⟨(S.rdr.below' hb (by have := o.h3; omega)).setFar o.h3 1 _, (S.bs.below hb (by omega)).set_ 1 _, OR.setFar ho (by show s5 < s5 + 1; omega) _, (S.br.below hb (by have := o.h2; have := o.h3; omega)).far (p := ⟨s5, 1, none⟩) (by have := o.h2; have := o.h3; show r2 ≠ s5; omega) _, ?_⟩
  exact below_kb' (Below.trans S.bel (Below.mono hb (by have := o.h1; have := o.h2; have := o.h3; omega))) ((Kb.refl s5 W').set 1 _) (by have := o.h1; have := o.h2; have := o.h3; omega)
def OutGet (w : World) (R : Sig × Nat) : Ending → World → Prop := fun e w' => ∃ A c, e = .returned (.tuple #[sigV R.1 A c, .int .i64 (R.2 : Int)]) ∧ OS 33 w' w.heap.size (.slice A R.1.bs.length c) R.1.bs ∧ Gr w w'
set_option maxRecDepth 100000 in
set_option maxHeartbeats 8000000 in
theorem get_any (A : Option Addr) (c : Nat) (l : List UInt8) (w : World) (hs : l.length ≤ 1000000) (hr : RB w w.heap.size A l) :
    Calls Try.prog 20 #[.slice A l.length c] w (OutGet w (gets l)) := by
  have b1 := Lib.hid (Blk.new w 35 sigZ1)
  have g1 := Lib.hid ((Gr.refl w).alloc (.cells sigZ1 35))
  have r1 := Lib.hid ((hr.below g1.out).more (Below.size g1.out))
  obtain ⟨R, hR⟩ : ∃ R, gets l = R := ⟨_, rfl⟩
  rw [hR]
  rw [gets_eq] at hR
  have hl64 := get_le (l, 0) 64
  clear hr
  go_enter Try.func20, Try.ntmps20
  go_wp2_with fail
  go_at_call 33
  refine (read_any A c l _ (by omega) r1.out).mono ?_
  rintro e w2 ⟨g, rfl, hgw, R2, g2⟩
  rw [World.size_alloc] at hgw
  have b2 := Lib.hid (blk_more b1.out g2)
  have G2 := Lib.hid (Gr.trans g1.out g2)
  have hi := Lib.hid (show Calls Try.prog 34 #[.pointer (some ⟨g, 0, none⟩), .int .i64 64] w2 fun e w' => e = .returned (.int .i64 ((get (l, 0) 64).2 : Int)) ∧ Vint.Rdr w' g (get (l, 0) 64).1 ∧ Kb g w2 w' from rint_any g (l, 0) 64 w2 (by omega) R2)
  clear b1 g1 r1 g2 R2
  generalize get (l, 0) 64 = p at *
  obtain ⟨st1, z⟩ := p
  simp only at hR hi hl64
  go_wp2_with fail
  go_at_call 34
  refine hi.out.mono ?_
  rintro e w3 ⟨rfl, R3, k3⟩
  have hlt := R3.lt
  have GOo := Lib.hid (⟨Nat.le_refl _, by omega, hlt⟩ : GO w w.heap.size g w3.heap.size)
  have S3 := Lib.hid (⟨R3.gr ((Gr.refl w3).alloc (.cells (sigC (z : Int) (.slice none 0 0) 0 zero) 35)), Blk.new w3 35 (sigC (z : Int) (.slice none 0 0) 0 zero), OS.nil_ _ _ _,
    (k3.blk b2.out (by omega)).alloc _, Below.alloc (below_kb' G2.out k3 (by omega)) (Nat.le_trans (Below.size G2.out) k3.size) _⟩ : GS w w.heap.size g w3.heap.size st1 (sigC (z : Int) (.slice none 0 0) 0 zero) none 0 [] (w3.alloc (.cells (sigC (z : Int) (.slice none 0 0) 0 zero) 35)))
  have hn := Lib.hid (show Calls Try.prog 34 #[.pointer (some ⟨g, 0, none⟩), .int .i64 4096] _ fun e w' => e = .returned (.int .i64 ((get st1 4096).2 : Int)) ∧ Vint.Rdr w' g (get st1 4096).1 ∧ Kb g _ w' from rint_any g st1 4096 _ (by omega) S3.out.rdr)
  have hl4 := get_le st1 4096
  clear b2 G2 R3 k3 hi
  generalize get st1 4096 = p at *
  obtain ⟨st2, n⟩ := p
  simp only at hR hn hl4
  obtain ⟨Q, hQ⟩ : ∃ Q, rowsC n st2 [] = Q := ⟨_, rfl⟩
  rw [hQ] at hR
  obtain ⟨s5, hs5⟩ : ∃ s5, w3.heap.size = s5 := ⟨_, rfl⟩
  rw [hs5] at GOo S3
  go_wp2_with fail
  go_at_call 34
  refine hn.out.mono ?_
  rintro e w4 ⟨rfl, R4, k4⟩
  have S4 := Lib.hid (S3.out.kb GOo.out k4 R4)
  replace hR := Lib.hid hR
  replace hQ := Lib.hid hQ
  clear hn S3 R4 k4
  go_wp2
  go_loopw [7] (fun i wr => ∃ k : Nat, k ≤ n ∧ i = .int .i64 (k : Int) ∧ ∃ st out A0 c0, out.length = k ∧ rowsC (n - k) st out = Q ∧ GS w w.heap.size g s5 st (sigC (z : Int) (.slice A0 out.length c0) 0 zero) A0 c0 out wr) (fun i _ => n - (intOf i).toNat)
  case atStart => exact ⟨0, by omega, rfl, st2, [], none, 0, rfl, hQ.out, S4.out⟩
  case round =>
    clear S4 hQ
    obtain ⟨k, hk, rfl, st, out, A0, c0, hok, hQ, S⟩ := hrel
    have y1 := S.bs.cell 1
    have hS := Lib.hid S
    by_cases h : k < n
    · obtain ⟨m, hm⟩ : ∃ m, n - k = m + 1 := ⟨n - k - 1, by omega⟩
      rw [hm, rowsC] at hQ
      have hle := Lib.hid (left_any g st wr S.rdr)
      by_cases h0 : st.1.length = 0
      · rw [if_pos h0] at hQ
        subst hQ
        have h0' : ((st.1.length : Nat) : Int) ≤ 0 := by omega
        have h0i : ¬ (0 : Int) < (st.1.length : Int) := by omega
        have hsh := Lib.hid (short_any g st wr S.rdr)
        have hRe : R = (empty, short st) := by
          have := hR.out
          unfold fin3 at this
          rw [if_pos (by simp only; omega)] at this
          exact this.symm
        subst hRe
        clear hR
        replace hok := Lib.hid hok
        have hlk : (out.length : Int) < (n : Int) := by have := hok.out; omega
        clear S
        go_wp2_with fail
        go_at_call 35
        refine hle.out.mono ?_
        rintro e w5 ⟨rfl, rfl⟩
        clear hle
        go_wp2_with fail
        go_at_call 37
        refine hsh.out.mono ?_
        rintro e w5 ⟨rfl, rfl⟩
        clear hsh y1
        go_wp2_with (first
          | ((with_reducible refine wpList_isStore 35 (.tmp 2) (.tmp 38) rfl ?_); refine wpList_store_blk rfl 35 (.tmp 2) (.tmp 38) rfl w.heap.size sigZ1 rfl rfl 35 sigZ1 hS.out.br (sigInfo _ _ _ _ _ _) rfl (by simp [Value.oneCell']) ?_; intro w9 n9 k9 z9; have x0 := n9.cell 0; have x1 := n9.cell 1; have x2 := n9.cell 2; have x3 := n9.cell 3; have x4 := n9.cell 4; have x5 := n9.cell 5; have B9 := Lib.hid (below_kb' hS.out.bel k9 (Nat.le_refl _)); clear n9 k9 z9))
        exact bodyPost_ret (v := .tuple #[.agg sigZ1, .int .i64 (((short st : Nat) : Int) : Int)]) (by simp [results, Try.results20, go_sem, x0, x1, x2, x3, x4, x5]) rfl ⟨none, 0, rfl, OS.nil_ _ _ _, B9.out⟩
      · rw [if_neg h0] at hQ
        have hl0 : (0 : Int) < (st.1.length : Int) := by omega
        have hone := Lib.hid (fun w => one_call g st w)
        generalize one st = p at *
        obtain ⟨st', x⟩ := p
        simp only at hQ hone
        replace hQ := Lib.hid hQ
        replace hok := Lib.hid hok
        have hob : out.length ≤ 4096 := by have := hok.out; omega
        clear S h0
        go_wp2_with fail
        go_at_call 35
        refine hle.out.mono ?_
        rintro e w5 ⟨rfl, rfl⟩
        clear hle
        go_wp2
        go_region_law (first
          | (refine step_call1 rfl (.tmp 28) 36 _ _ rfl Try.func36 (by kernel_rfl) (by kernel_rfl) (.pointer (some ⟨g, 0, none⟩)) rfl _ (hone.out _ (by exact hS.out.rdr)) ?_; rintro u w6 ⟨rfl, R6, k6⟩; have S6 := hS.out.kb GOo.out (kb_drew k6) R6; have y6 := S6.bs.cell 1; have S7 := Lib.hid (S6.gr ((Gr.refl w6).alloc (.cells #[.int .u32 (n32 x.1), .int .u64 (n64 x.2.1), .int .u64 (n64 x.2.2)] 33))); have y7 := S7.out.bs.cell 1; have t7 := Lib.hid (SR.new1 w6 33 x); clear R6 k6 S6)
          | (refine step_append_rows (base := s5 + 1) (n := out.length) (v := .slice A0 out.length c0) (xs := scs out) rfl (.tmp 27) (.tmp 30) 27 rfl Try.underlying27 signRow rfl (by exact S7.out.os) (w6.heap.size + 1) (some ⟨w6.heap.size, 0, none⟩) 1 1 (scs [x]) rfl (by exact t7.out) (scs_one_cell _) (by unfold maxLen; omega) (by omega) (by have := S7.out.bs.lt; omega) (scs (out ++ [x])) (scs_append _ _) (out.length + 1) rfl ?_; intro A9 c9 w9 o9 b9; have S9 := Lib.hid (S7.out.app (x := x) GOo.out b9 o9 (by simp)); have m9 := S7.out.bs.below b9 (by omega); have f9 := m9.frozen 1; have y9 := m9.cell 1; clear t7 S7 o9 b9 m9))
        all_goals
          go_wp2
          go_roundw
          case rel => exact ⟨k + 1, by omega, by go_num, st', out ++ [x], A9, c9, by rw [List.length_append, hok.out]; rfl, by rw [show n - (k + 1) = m by omega]; exact hQ.out, by rw [List.length_append]; exact S9.out⟩
          case measure => simp [intOf]; omega
    · obtain rfl : k = n := by omega
      rw [Nat.sub_self, rowsC] at hQ
      subst hQ
      have hRf := hR.out
      unfold fin3 fin2 at hRf
      rw [if_neg (by simp only; omega)] at hRf
      simp only at hRf
      have hn3 := Lib.hid (show Calls Try.prog 34 #[.pointer (some ⟨g, 0, none⟩), .int .i64 63] wr fun e w' => e = .returned (.int .i64 ((get st 63).2 : Int)) ∧ Vint.Rdr w' g (get st 63).1 ∧ Kb g wr w' from rint_any g st 63 wr (by omega) S.rdr)
      have hl3 := get_le st 63
      generalize get st 63 = p at *
      obtain ⟨st3, t⟩ := p
      simp only at hRf hn3 hl3
      clear hR S
      have hko : (out.length : Int) = (k : Int) := by omega
      have hkk : ¬ (out.length : Int) < (k : Int) := by omega
      replace hok := Lib.hid hok
      replace hRf := Lib.hid hRf
      go_wp2_with fail
      go_at_call 34
      refine hn3.out.mono ?_
      rintro e w5 ⟨rfl, R5, k5⟩
      have S5 := hS.out.kb GOo.out k5 R5
      have f2 := S5.bs.frozen 2
      have y2 := S5.bs.cell 2
      have S6 := Lib.hid (S5.set GOo.out 2 (.int .i64 (t : Int)))
      have u2 := S6.out.bs.cell 2
      clear hn3 hS k5 R5 S5 y1 hkk hko
      by_cases ht : 0 < t
      · have ht' : (0 : Int) < (t : Int) := by omega
        have hRg := hRf.out
        unfold lastR at hRg
        rw [if_pos ht] at hRg
        have hone := Lib.hid (one_any g st3 _ S6.out.rdr)
        generalize one st3 = p at *
        obtain ⟨st4, x⟩ := p
        simp only at hone
        replace hRg := Lib.hid hRg
        clear hRf
        go_wp2_with fail
        go_at_call 36
        refine hone.out.mono ?_
        rintro e w7 ⟨rfl, R7, k7⟩
        have S7 := S6.out.kb GOo.out k7 R7
        have y3 := S7.bs.cell 3
        have y4 := S7.bs.cell 4
        have y5 := S7.bs.cell 5
        have f3 := S7.bs.frozen 3
        have f4 := S7.bs.frozen 4
        have f5 := S7.bs.frozen 5
        have S8 := Lib.hid (((S7.set GOo.out 3 (.int .u32 (n32 x.1))).set GOo.out 4 (.int .u64 (n64 x.2.1))).set GOo.out 5 (.int .u64 (n64 x.2.2)))
        clear hone S6 S7 R7 k7 y2 f2 u2
        have he := Lib.hid (fun w hR => end_any g st4 w hR)
        have hRg := hRg.out
        unfold fin at hRg
        obtain ⟨q, hq⟩ : ∃ q, ended st4 = q := ⟨_, rfl⟩
        simp only [hq] at hRg
        rw [hq] at he
        clear hq
        by_cases hq0 : q = 0
        · rw [if_neg (by simpa using hq0)] at hRg
          subst hq0
          obtain ⟨b, hb⟩ : ∃ b, right ⟨(z : Int), out, (t : Int), x⟩ = b := ⟨_, rfl⟩
          have hro := Lib.hid (fun w => right_any ⟨(z : Int), out, (t : Int), x⟩ A0 c0 w)
          rw [hb] at hRg hro
          clear hb
          replace hRg := Lib.hid hRg
          go_wp2_with fail
          go_at_call 38
          refine (he.out _ S8.out.rdr).mono ?_
          rintro e w8 ⟨rfl, hw8⟩
          subst hw8
          clear he
          go_wp2_with (first
            | ((with_reducible refine wpList_isLoad 35 (.tmp 5) rfl ?_); refine wpList_load_row rfl 35 (.tmp 5) rfl s5 rfl 35 _ (0, 0) _ S8.out.bs Try.underlying35 rfl (sigInfo _ _ _ _ _ _) ?_))
          go_at_call 19
          refine (hro.out _).mono ?_
          rintro e w9' ⟨rfl, g9⟩
          have S9 := Lib.hid (S8.out.gr g9)
          clear S8 g9 hro
          cases b
          · have hRe := hRg.out
            rw [if_neg (by simp)] at hRe
            subst hRe
            clear hRg
            go_wp2_with (first
              | ((with_reducible refine wpList_isLoad 35 (.tmp 5) rfl ?_); refine wpList_load_row rfl 35 (.tmp 5) rfl s5 rfl 35 _ (0, 0) _ S9.out.bs Try.underlying35 rfl (sigInfo _ _ _ _ _ _) ?_)
              | ((with_reducible refine wpList_isStore 35 (.tmp 2) (.tmp 59) rfl ?_); refine wpList_store_blk rfl 35 (.tmp 2) (.tmp 59) rfl w.heap.size sigZ1 rfl rfl 35 sigZ1 S9.out.br (sigInfo _ _ _ _ _ _) rfl (by simp [Value.oneCell']) ?_; intro w9 n9 k9 z9; have x0 := n9.cell 0; have x1 := n9.cell 1; have x2 := n9.cell 2; have x3 := n9.cell 3; have x4 := n9.cell 4; have x5 := n9.cell 5; have B9 := Lib.hid (below_kb' S9.out.bel k9 (Nat.le_refl _)); have O9 := Lib.hid (os_kb S9.out.os k9 (by have := GOo.out.h3; omega)); clear n9 k9 z9))
            exact bodyPost_ret (v := .tuple #[.agg sigZ1, .int .i64 (3 : Int)]) (by simp [results, Try.results20, go_sem, x0, x1, x2, x3, x4, x5]) rfl ⟨none, 0, rfl, OS.nil_ _ _ _, B9.out⟩
          · have hRe := hRg.out
            rw [if_pos rfl] at hRe
            subst hRe
            clear hRg
            go_wp2_with (first
              | ((with_reducible refine wpList_isLoad 35 (.tmp 5) rfl ?_); refine wpList_load_row rfl 35 (.tmp 5) rfl s5 rfl 35 _ (0, 0) _ S9.out.bs Try.underlying35 rfl (sigInfo _ _ _ _ _ _) ?_)
              | ((with_reducible refine wpList_isStore 35 (.tmp 2) (.tmp 60) rfl ?_); refine wpList_store_blk rfl 35 (.tmp 2) (.tmp 60) rfl w.heap.size (sigC (z : Int) (.slice A0 out.length c0) (t : Int) x) rfl rfl 35 sigZ1 S9.out.br (sigInfo _ _ _ _ _ _) rfl (by simp [Value.oneCell']) ?_; intro w9 n9 k9 z9; have x0 := n9.cell 0; have x1 := n9.cell 1; have x2 := n9.cell 2; have x3 := n9.cell 3; have x4 := n9.cell 4; have x5 := n9.cell 5; have B9 := Lib.hid (below_kb' S9.out.bel k9 (Nat.le_refl _)); have O9 := Lib.hid (os_kb S9.out.os k9 (by have := GOo.out.h3; omega)); clear n9 k9 z9))
            exact bodyPost_ret (v := .tuple #[.agg (sigC (z : Int) (.slice A0 out.length c0) (t : Int) x), .int .i64 (0 : Int)]) (by simp [results, Try.results20, go_sem, x0, x1, x2, x3, x4, x5]) rfl ⟨A0, c0, rfl, OR.base_le O9.out (by have := GOo.out.h1; have := GOo.out.h2; have := GOo.out.h3; omega), B9.out⟩
        · rw [if_pos hq0] at hRg
          subst hRg
          have hqi : ((q : Int) == 0) = false := by simp [hq0]
          have hqb : ¬ (q : Int) = 0 := by omega
          go_wp2_with fail
          go_at_call 38
          refine (he.out _ S8.out.rdr).mono ?_
          rintro e w8 ⟨rfl, hw8⟩
          subst hw8
          clear he
          go_wp2_with (first
            | ((with_reducible refine wpList_isLoad 35 (.tmp 5) rfl ?_); refine wpList_load_row rfl 35 (.tmp 5) rfl s5 rfl 35 _ (0, 0) _ S8.out.bs Try.underlying35 rfl (sigInfo _ _ _ _ _ _) ?_)
            | ((with_reducible refine wpList_isStore 35 (.tmp 2) (.tmp 54) rfl ?_); refine wpList_store_blk rfl 35 (.tmp 2) (.tmp 54) rfl w.heap.size sigZ1 rfl rfl 35 sigZ1 S8.out.br (sigInfo _ _ _ _ _ _) rfl (by simp [Value.oneCell']) ?_; intro w9 n9 k9 z9; have x0 := n9.cell 0; have x1 := n9.cell 1; have x2 := n9.cell 2; have x3 := n9.cell 3; have x4 := n9.cell 4; have x5 := n9.cell 5; have B9 := Lib.hid (below_kb' S8.out.bel k9 (Nat.le_refl _)); have O9 := Lib.hid (os_kb S8.out.os k9 (by have := GOo.out.h3; omega)); clear n9 k9 z9))
          exact bodyPost_ret (v := .tuple #[.agg sigZ1, .int .i64 ((q : Nat) : Int)]) (by simp [results, Try.results20, go_sem, x0, x1, x2, x3, x4, x5]) rfl ⟨none, 0, rfl, OS.nil_ _ _ _, B9.out⟩
      · obtain rfl : t = 0 := by omega
        have hRg := hRf.out
        unfold lastR at hRg
        rw [if_neg ht] at hRg
        replace hRg := Lib.hid hRg
        clear hRf ht
        have S8 := S6
        have he := Lib.hid (fun w hR => end_any g st3 w hR)
        have hRg := hRg.out
        unfold fin at hRg
        obtain ⟨q, hq⟩ : ∃ q, ended st3 = q := ⟨_, rfl⟩
        simp only [hq] at hRg
        rw [hq] at he
        clear hq
        by_cases hq0 : q = 0
        · rw [if_neg (by simpa using hq0)] at hRg
          subst hq0
          obtain ⟨b, hb⟩ : ∃ b, right ⟨(z : Int), out, ((0 : Nat) : Int), zero⟩ = b := ⟨_, rfl⟩
          have hro := Lib.hid (fun w => right_any ⟨(z : Int), out, ((0 : Nat) : Int), zero⟩ A0 c0 w)
          rw [hb] at hRg hro
          clear hb
          replace hRg := Lib.hid hRg
          go_wp2_with fail
          go_at_call 38
          refine (he.out _ S8.out.rdr).mono ?_
          rintro e w8 ⟨rfl, hw8⟩
          subst hw8
          clear he
          go_wp2_with (first
            | ((with_reducible refine wpList_isLoad 35 (.tmp 5) rfl ?_); refine wpList_load_row rfl 35 (.tmp 5) rfl s5 rfl 35 _ (0, 0) _ S8.out.bs Try.underlying35 rfl (sigInfo _ _ _ _ _ _) ?_))
          go_at_call 19
          refine (hro.out _).mono ?_
          rintro e w9' ⟨rfl, g9⟩
          have S9 := Lib.hid (S8.out.gr g9)
          clear S8 g9 hro
          cases b
          · have hRe := hRg.out
            rw [if_neg (by simp)] at hRe
            subst hRe
            clear hRg
            go_wp2_with (first
              | ((with_reducible refine wpList_isLoad 35 (.tmp 5) rfl ?_); refine wpList_load_row rfl 35 (.tmp 5) rfl s5 rfl 35 _ (0, 0) _ S9.out.bs Try.underlying35 rfl (sigInfo _ _ _ _ _ _) ?_)
              | ((with_reducible refine wpList_isStore 35 (.tmp 2) (.tmp 59) rfl ?_); refine wpList_store_blk rfl 35 (.tmp 2) (.tmp 59) rfl w.heap.size sigZ1 rfl rfl 35 sigZ1 S9.out.br (sigInfo _ _ _ _ _ _) rfl (by simp [Value.oneCell']) ?_; intro w9 n9 k9 z9; have x0 := n9.cell 0; have x1 := n9.cell 1; have x2 := n9.cell 2; have x3 := n9.cell 3; have x4 := n9.cell 4; have x5 := n9.cell 5; have B9 := Lib.hid (below_kb' S9.out.bel k9 (Nat.le_refl _)); have O9 := Lib.hid (os_kb S9.out.os k9 (by have := GOo.out.h3; omega)); clear n9 k9 z9))
            exact bodyPost_ret (v := .tuple #[.agg sigZ1, .int .i64 (3 : Int)]) (by simp [results, Try.results20, go_sem, x0, x1, x2, x3, x4, x5]) rfl ⟨none, 0, rfl, OS.nil_ _ _ _, B9.out⟩
          · have hRe := hRg.out
            rw [if_pos rfl] at hRe
            subst hRe
            clear hRg
            go_wp2_with (first
              | ((with_reducible refine wpList_isLoad 35 (.tmp 5) rfl ?_); refine wpList_load_row rfl 35 (.tmp 5) rfl s5 rfl 35 _ (0, 0) _ S9.out.bs Try.underlying35 rfl (sigInfo _ _ _ _ _ _) ?_)
              | ((with_reducible refine wpList_isStore 35 (.tmp 2) (.tmp 60) rfl ?_); refine wpList_store_blk rfl 35 (.tmp 2) (.tmp 60) rfl w.heap.size (sigC (z : Int) (.slice A0 out.length c0) ((0 : Nat) : Int) zero) rfl rfl 35 sigZ1 S9.out.br (sigInfo _ _ _ _ _ _) rfl (by simp [Value.oneCell']) ?_; intro w9 n9 k9 z9; have x0 := n9.cell 0; have x1 := n9.cell 1; have x2 := n9.cell 2; have x3 := n9.cell 3; have x4 := n9.cell 4; have x5 := n9.cell 5; have B9 := Lib.hid (below_kb' S9.out.bel k9 (Nat.le_refl _)); have O9 := Lib.hid (os_kb S9.out.os k9 (by have := GOo.out.h3; omega)); clear n9 k9 z9))
            exact bodyPost_ret (v := .tuple #[.agg (sigC (z : Int) (.slice A0 out.length c0) ((0 : Nat) : Int) zero), .int .i64 (0 : Int)]) (by simp [results, Try.results20, go_sem, x0, x1, x2, x3, x4, x5]) rfl ⟨A0, c0, rfl, OR.base_le O9.out (by have := GOo.out.h1; have := GOo.out.h2; have := GOo.out.h3; omega), B9.out⟩
        · rw [if_pos hq0] at hRg
          subst hRg
          have hqi : ((q : Int) == 0) = false := by simp [hq0]
          have hqb : ¬ (q : Int) = 0 := by omega
          go_wp2_with fail
          go_at_call 38
          refine (he.out _ S8.out.rdr).mono ?_
          rintro e w8 ⟨rfl, hw8⟩
          subst hw8
          clear he
          go_wp2_with (first
            | ((with_reducible refine wpList_isLoad 35 (.tmp 5) rfl ?_); refine wpList_load_row rfl 35 (.tmp 5) rfl s5 rfl 35 _ (0, 0) _ S8.out.bs Try.underlying35 rfl (sigInfo _ _ _ _ _ _) ?_)
            | ((with_reducible refine wpList_isStore 35 (.tmp 2) (.tmp 54) rfl ?_); refine wpList_store_blk rfl 35 (.tmp 2) (.tmp 54) rfl w.heap.size sigZ1 rfl rfl 35 sigZ1 S8.out.br (sigInfo _ _ _ _ _ _) rfl (by simp [Value.oneCell']) ?_; intro w9 n9 k9 z9; have x0 := n9.cell 0; have x1 := n9.cell 1; have x2 := n9.cell 2; have x3 := n9.cell 3; have x4 := n9.cell 4; have x5 := n9.cell 5; have B9 := Lib.hid (below_kb' S8.out.bel k9 (Nat.le_refl _)); have O9 := Lib.hid (os_kb S8.out.os k9 (by have := GOo.out.h3; omega)); clear n9 k9 z9))
          exact bodyPost_ret (v := .tuple #[.agg sigZ1, .int .i64 ((q : Nat) : Int)]) (by simp [results, Try.results20, go_sem, x0, x1, x2, x3, x4, x5]) rfl ⟨none, 0, rfl, OS.nil_ _ _ _, B9.out⟩
end Sg
end Go.Proofs.Ytcibngbgcnnjnaa
namespace Go.Proofs.Ytcibngbgcnnjnaa
open Go Go.RowKit W
namespace Vint
theorem rest7 (n : UInt64) : (n % 128).toUInt8 = UInt8.ofNat (n.toNat % 128) := by
  apply UInt8.toNat_inj.1
  simp [UInt64.toNat_mod]
theorem rest7up (n : UInt64) : (n % 128).toUInt8 + 128 = UInt8.ofNat (n.toNat % 128 + 128) := by
  apply UInt8.toNat_inj.1
  rw [UInt8.toNat_add, rest7]
  simp
set_option maxRecDepth 100000 in
set_option maxHeartbeats 2000000 in
theorem refNum_any (n0 : UInt64) (w : World) : Calls Try.prog 45 #[.int .u64 (n64 n0)] w fun e w' => e = .returned (str (num n0.toNat)) ∧ Gr w w' := by
  have hn0 : (num n0.toNat).length ≤ 10 := num_length 9 _ (Nat.lt_of_lt_of_le n0.toNat_lt (by decide))
  have hown0 := Lib.hid (OB.made (E := 5) (base := w.heap.size) w (Nat.le_refl _))
  have hg0 := Lib.hid ((Gr.refl w).alloc (.cells #[] 5))
  have hst : n0.toNat < 128 ^ 10 := Nat.lt_of_lt_of_le n0.toNat_lt (by decide)
  go_enter Try.func45, Try.ntmps45
  go_wp2
  go_loopw [0, 3, 4] (fun x b j wr => ∃ (n : UInt64) (o : List UInt8) (i : Nat), i ≤ 10 ∧ x = .int .u64 (n64 n) ∧ j = .int .i64 (i : Int) ∧ OB 5 wr w.heap.size b o ∧ Gr w wr ∧ o.length ≤ 10 ∧ n.toNat < 128 ^ (10 - i) ∧ (i = 0 ∨ 0 < n.toNat) ∧ Hid (o ++ num n.toNat = num n0.toNat)) (fun _ _ j _ => 10 - (intOf j).toNat)
  case atStart => exact ⟨n0, [], 0, by omega, rfl, rfl, hown0.out, hg0.out, by simp, hst, .inl rfl, Lib.hid rfl⟩
  case round =>
    obtain ⟨n, o, i, hi, rfl, rfl, hown, hg, hol, hlt, hpos, ho⟩ := hrel
    clear hown0 hg0 hst
    obtain ⟨A0, c0, rfl, hcl, hcm⟩ := hown.shape
    have hgs := hg.size
    have hon : o.length + (num n.toNat).length = (num n0.toNat).length := by
      have := congrArg List.length ho.out
      rwa [List.length_append] at this
    have hnp := num_pos n.toNat
    by_cases h10 : i < 10
    · have h10i : (i : Int) < 10 := by omega
      by_cases h : n.toNat < 128
      · have hz : (n64 (n / 128) == 0) = true := by simp [n64, UInt64.toNat_div]; omega
        have ho2 : Hid (o ++ [(n % 128).toUInt8] = num n0.toNat) := by
          have h1 := ho.out
          rw [num_small h] at h1
          rw [rest7, Nat.mod_eq_of_lt h]
          exact Lib.hid h1
        have hown2 := Lib.hid (hown.alloc (.cells #[.int .u8 (n8 ((n % 128).toUInt8))] 5))
        have hg2 := Lib.hid (Below.alloc hg hgs (.cells #[.int .u8 (n8 ((n % 128).toUInt8))] 5))
        have hrb := Lib.hid (RB.new1 wr 5 (n % 128).toUInt8)
        clear hown hg ho hlt hpos
        go_wp2_with (first
          | (refine wpList_append_bytes _ rfl (.tmp 18) (.tmp 20) 26 rfl w.heap.size 5 Try.underlying26 byteType _ o rfl (by exact hown2.out) (wr.heap.size + 1) _ _ _ [(n % 128).toUInt8] rfl rfl (by exact hrb.out) (by simp; omega) (by simp; omega) (o ++ [(n % 128).toUInt8]) rfl (o ++ [(n % 128).toUInt8]).length rfl ?_; intro A3 c3 w3 hown4 hbel4; have hcv := run_bytes_string (P := Try.prog) w3 26 9 5 Try.underlying26 byteType.1 Try.underlying9 _ A3 c3 (o.length + 1) (o ++ [(n % 128).toUInt8]) (by simp) hown4.rb)
          | (refine step_append_bytes _ rfl (.tmp 18) (.tmp 20) 26 rfl w.heap.size 5 Try.underlying26 byteType _ o rfl (by exact hown2.out) (wr.heap.size + 1) _ _ _ [(n % 128).toUInt8] rfl rfl (by exact hrb.out) (by simp; omega) (by simp; omega) (o ++ [(n % 128).toUInt8]) rfl (o ++ [(n % 128).toUInt8]).length rfl ?_; intro A3 c3 w3 hown4 hbel4; have hcv := run_bytes_string (P := Try.prog) w3 26 9 5 Try.underlying26 byteType.1 Try.underlying9 _ A3 c3 (o.length + 1) (o ++ [(n % 128).toUInt8]) (by simp) hown4.rb))
        go_ret
        rw [← ho2.out]
        exact ⟨rfl, Below.trans hg2.out hbel4⟩
      · have hz : (n64 (n / 128) == 0) = false := by simp [n64, UInt64.toNat_div]; omega
        have ho2 : Hid ((o ++ [(n % 128).toUInt8 + 128]) ++ num (n / 128).toNat = num n0.toNat) := by
          have h1 := ho.out
          rw [num_big h] at h1
          rw [rest7up, UInt64.toNat_div, List.append_assoc]
          exact Lib.hid h1
        have hlt2 : (n / 128).toNat < 128 ^ (10 - (i + 1)) := by
          rw [UInt64.toNat_div]
          have e : 10 - i = 10 - (i + 1) + 1 := by omega
          rw [e, Nat.pow_succ] at hlt
          show n.toNat / 128 < _
          exact Nat.div_lt_of_lt_mul (by rw [Nat.mul_comm]; exact hlt)
        have hpos2 : 0 < (n / 128).toNat := by rw [UInt64.toNat_div]; show 0 < n.toNat / 128; omega
        replace hlt2 := Lib.hid hlt2
        replace hpos2 := Lib.hid hpos2
        have hown2 := Lib.hid (hown.alloc (.cells #[.int .u8 (n8 ((n % 128).toUInt8 + 128))] 5))
        have hg2 := Lib.hid (Below.alloc hg hgs (.cells #[.int .u8 (n8 ((n % 128).toUInt8 + 128))] 5))
        have hrb := Lib.hid (RB.new1 wr 5 ((n % 128).toUInt8 + 128))
        have hnum2 := Lib.hid (num_pos (n / 128).toNat)
        clear hown hg ho hlt hpos
        go_wp2_with (first
          | (refine wpList_append_bytes _ rfl (.tmp 24) (.tmp 27) 26 rfl w.heap.size 5 Try.underlying26 byteType _ o rfl (by exact hown2.out) (wr.heap.size + 1) _ _ _ [(n % 128).toUInt8 + 128] rfl rfl (by exact hrb.out) (by simp; omega) (by simp; omega) (o ++ [(n % 128).toUInt8 + 128]) rfl (o ++ [(n % 128).toUInt8 + 128]).length rfl ?_; intro A3 c3 w3 hown4 hbel4)
          | (refine step_append_bytes _ rfl (.tmp 24) (.tmp 27) 26 rfl w.heap.size 5 Try.underlying26 byteType _ o rfl (by exact hown2.out) (wr.heap.size + 1) _ _ _ [(n % 128).toUInt8 + 128] rfl rfl (by exact hrb.out) (by simp; omega) (by simp; omega) (o ++ [(n % 128).toUInt8 + 128]) rfl (o ++ [(n % 128).toUInt8 + 128]).length rfl ?_; intro A3 c3 w3 hown4 hbel4))
        go_roundw
        case rel =>
          have h4 := hown4
          rw [List.length_append] at h4
          exact ⟨n / 128, _, i + 1, by omega, rfl, by go_num, h4, Below.trans hg2.out hbel4, by simp; omega, hlt2.out, .inr hpos2.out, ho2⟩
        case measure => simp [intOf]; omega
    · exfalso
      obtain rfl : i = 10 := by omega
      have : n.toNat < 1 := hlt
      omega
end Vint
end Go.Proofs.Ytcibngbgcnnjnaa
namespace Go.Proofs.Ytcibngbgcnnjnaa
open Go Go.RowKit W
namespace Vint
def byteB (x : UInt64) (i : Nat) : UInt8 := UInt8.ofNat (x.toNat / 256 ^ (7 - i))
/-- The eight bytes of a word, from place j on; zeros ahead. -/
def upB (x : UInt64) (j : Nat) : List UInt8 := (List.range 8).map fun i => if j ≤ i then byteB x i else 0
theorem upB_length (x : UInt64) (j : Nat) : (upB x j).length = 8 := by simp [upB]
theorem upB_all (x : UInt64) : upB x 0 = be8 x := by simp [upB, be8, byteB]
theorem upB_none (x : UInt64) : upB x 8 = [0, 0, 0, 0, 0, 0, 0, 0] := by rfl
theorem upB_set (x : UInt64) (m : Nat) (h : m < 8) : (upB x (m + 1)).set m (byteB x m) = upB x m := by
  apply List.ext_getElem
  · simp [upB]
  · intro i h1 h2
    rw [List.length_set, upB_length] at h1
    rw [List.getElem_set]
    by_cases e : m = i
    · subst e
      rw [if_pos rfl]
      simp [upB]
    · rw [if_neg e]
      simp only [upB, List.getElem_map, List.getElem_range]
      by_cases hle : m ≤ i
      · rw [if_pos (by omega), if_pos hle]
      · rw [if_neg (by omega), if_neg hle]
theorem two_set (x y : UInt64) (m : Nat) (h : m < 8) : ((upB x (m + 1) ++ upB y (m + 1)).set m (byteB x m)).set (8 + m) (byteB y m) = upB x m ++ upB y m := by
  have e1 : (upB x (m + 1) ++ upB y (m + 1)).set m (byteB x m) = upB x m ++ upB y (m + 1) := by
    rw [List.set_append, if_pos (by rw [upB_length]; exact h), upB_set x m h]
  rw [e1, List.set_append, if_neg (by rw [upB_length]; omega), upB_length, Nat.add_sub_cancel_left, upB_set y m h]
theorem down_b (X : Nat) : (UInt64.ofNat X % 256).toUInt8 = UInt8.ofNat (X % 18446744073709551616) := by
  apply UInt8.toNat_inj.1
  simp [UInt64.toNat_mod]
def dn (x : UInt64) (j : Nat) : UInt64 := UInt64.ofNat (x.toNat / 256 ^ (8 - j))
theorem dn_byte (x : UInt64) (m : Nat) (h : m < 8) : (dn x (m + 1) % 256).toUInt8 = byteB x m := by
  unfold dn byteB
  have e : 8 - (m + 1) = 7 - m := by omega
  have hl : x.toNat / 256 ^ (7 - m) < 18446744073709551616 := Nat.lt_of_le_of_lt (Nat.div_le_self _ _) x.toNat_lt
  rw [down_b, e, Nat.mod_eq_of_lt hl]
theorem dn_step (x : UInt64) (m : Nat) (h : m < 8) : dn x (m + 1) / 256 = dn x m := by
  apply UInt64.toNat_inj.1
  unfold dn
  have h1 : x.toNat / 256 ^ (8 - (m + 1)) < 18446744073709551616 := Nat.lt_of_le_of_lt (Nat.div_le_self _ _) x.toNat_lt
  have h2 : x.toNat / 256 ^ (8 - m) < 18446744073709551616 := Nat.lt_of_le_of_lt (Nat.div_le_self _ _) x.toNat_lt
  rw [UInt64.toNat_div, UInt64.toNat_ofNat', UInt64.toNat_ofNat', Nat.mod_eq_of_lt (show _ < 2 ^ 64 from h1), Nat.mod_eq_of_lt (show _ < 2 ^ 64 from h2)]
  have e : 8 - m = (8 - (m + 1)) + 1 := by omega
  rw [e, Nat.pow_succ, ← Nat.div_div_eq_div_mul]
  rfl
theorem dn_top (x : UInt64) : dn x 8 = x := by
  unfold dn
  simp
set_option maxRecDepth 100000 in
set_option maxHeartbeats 2000000 in
theorem refSum_any (x y : UInt64) (w : World) : Calls Try.prog 46 #[.agg #[.int .u64 (n64 x), .int .u64 (n64 y)]] w fun e w' => e = .returned (str (sum x y)) ∧ Gr w w' := by
  obtain ⟨Z, hZ⟩ : ∃ Z, Z = upB x 8 ++ upB y 8 := ⟨_, rfl⟩
  have hZl : Z.length = 16 := by rw [hZ, List.length_append, upB_length, upB_length]
  have hmc : madeCells (Value.int .u8 0).cells 16 = (bvs Z).toArray := by rw [hZ, upB_none, upB_none]; kernel_rfl
  have hb0 := (Blk.new w 31 #[.int .u64 (n64 x), .int .u64 (n64 y)]).alloc (.cells (bvs Z).toArray 5)
  have hown0 := OB.lit (E := 5) (base := w.heap.size) (w.alloc (.cells #[.int .u64 (n64 x), .int .u64 (n64 y)] 31)) Z (by simp) (by rw [hZl]; unfold maxLen; omega)
  rw [World.size_alloc, hZl] at hown0
  have hg0 := ((Gr.refl w).alloc (.cells #[.int .u64 (n64 x), .int .u64 (n64 y)] 31)).alloc (.cells (bvs Z).toArray 5)
  have q0 := hb0.cell 0
  have q1 := hb0.cell 1
  replace hown0 := Lib.hid hown0
  replace hg0 := Lib.hid hg0
  replace hZ := Lib.hid hZ
  replace hZl := Lib.hid hZl
  obtain ⟨i0, hi0, hz0, hz1, hz2⟩ := info_parts byteType.2
  have hmk := run_makeSlice (P := Try.prog) (w.alloc (.cells #[.int .u64 (n64 x), .int .u64 (n64 y)] 31)) 26 5 i0 (.int .u8 0) Try.underlying26 hi0 hz0 .i64 .i64 16 16 (by omega) (by omega) (by rw [hz1]; decide) (by rw [hz2]; decide) (by omega)
  rw [hz1, World.size_alloc, show (16 : Int).toNat * 1 = 16 from rfl, hmc, show (16 : Int).toNat = 16 from rfl] at hmk
  clear hmc hb0 hz0 hz1 hz2 hi0
  go_enter Try.func46, Try.ntmps46
  go_wp2
  go_region
  go_wp2
  clear hmk q0 q1
  go_loopw [4, 5, 6] (fun a b i wr => ∃ (j : Nat) (L : List UInt8), j ≤ 8 ∧ i = .int .i64 ((j : Int) - 1) ∧ a = .int .u64 (n64 (dn x j)) ∧ b = .int .u64 (n64 (dn y j)) ∧ L.length = 16 ∧ OB 5 wr w.heap.size (.slice (some ⟨w.heap.size + 1, 0, none⟩) 16 16) L ∧ Gr w wr ∧ Hid (L = upB x j ++ upB y j)) (fun _ _ i _ => (intOf i + 1).toNat)
  case atStart => exact ⟨8, Z, by omega, rfl, by rw [dn_top], by rw [dn_top], hZl.out, hown0.out.drew, Gr.drew hg0.out, hZ⟩
  case round =>
    obtain ⟨j, L, hj, rfl, rfl, rfl, hL16, hown, hg, hL⟩ := hrel
    clear hown0 hg0
    by_cases h0 : j = 0
    · subst h0
      have hcv := run_bytes_string (P := Try.prog) wr 26 9 5 Try.underlying26 byteType.1 Try.underlying9 wr.heap.size (some ⟨w.heap.size + 1, 0, none⟩) 16 16 L hL16.symm (by have h := hown; rw [← hL16] at h; exact h.rb)
      have hf : Hid (L = sum x y) := by rw [hL.out, upB_all, upB_all]; exact Lib.hid rfl
      have hg' := Lib.hid hg
      clear hown hg hL hL16
      go_wp2
      go_ret
      rw [← hf.out]
      exact ⟨rfl, hg'.out⟩
    · obtain ⟨m, rfl⟩ : ∃ m, j = m + 1 := ⟨j - 1, by omega⟩
      have e : (((m + 1 : Nat) : Int) - 1) = (m : Int) := by omega
      rw [e]
      have hm : m < 8 := by omega
      have hp := Lib.hid (dn_byte x m hm)
      have hq := Lib.hid (dn_byte y m hm)
      have hp2 := Lib.hid (dn_step x m hm)
      have hq2 := Lib.hid (dn_step y m hm)
      have hset := Lib.hid (two_set x y m hm)
      generalize dn x (m + 1) = p at *
      generalize dn y (m + 1) = q at *
      obtain ⟨v0, c0⟩ : ∃ v, wr.cell? ⟨w.heap.size + 1, m, none⟩ = some v := ⟨_, OB.cell hown m (by omega)⟩
      have f0 := OB.frozen hown m
      have hown1 := OB.stored hown m (p % 256).toUInt8
      obtain ⟨v1, c1⟩ : ∃ v, (wr.setCell ⟨w.heap.size + 1, m, none⟩ (.int .u8 (n8 (p % 256).toUInt8))).cell? ⟨w.heap.size + 1, 8 + m, none⟩ = some v := ⟨_, OB.cell hown1 (8 + m) (by rw [List.length_set]; omega)⟩
      have f1 := OB.frozen hown1 (8 + m)
      have hown2 := Lib.hid (OB.stored hown1 (8 + m) (q % 256).toUInt8)
      have hg2 := Lib.hid (Below.setCell (Below.setCell hg (p := ⟨w.heap.size + 1, m, none⟩) (Nat.le_succ _) (.int .u8 (n8 (p % 256).toUInt8))) (p := ⟨w.heap.size + 1, 8 + m, none⟩) (Nat.le_succ _) (.int .u8 (n8 (q % 256).toUInt8)))
      have hL2 : Hid ((L.set m (p % 256).toUInt8).set (8 + m) (q % 256).toUInt8 = upB x m ++ upB y m) := by rw [hL.out, hp.out, hq.out, hset.out]; exact Lib.hid rfl
      have hLl : ((L.set m (p % 256).toUInt8).set (8 + m) (q % 256).toUInt8).length = 16 := by simp [hL16]
      replace hLl := Lib.hid hLl
      have hmi : (0 : Int) ≤ (m : Int) := by omega
      have hm16 : (m : Int) < 16 := by omega
      have hm16' : (8 : Int) + (m : Int) < 16 := by omega
      clear hown hown1 hg hL hL16 h0 e
      go_wp2
      go_roundw
      case rel => exact ⟨m, _, by omega, by first | rfl | go_num, by rw [hp2.out], by rw [hq2.out], hLl.out, hown2.out, hg2.out, hL2⟩
      case measure => first | (simp [intOf]; done) | (simp [intOf]; omega)
end Vint
end Go.Proofs.Ytcibngbgcnnjnaa
namespace Go.Proofs.Ytcibngbgcnnjnaa
open Go Go.RowKit W Bl Vint
namespace Sg
set_option maxRecDepth 100000 in
set_option maxHeartbeats 8000000 in
theorem refRight_raw (z t : Int) (n : Nat) (xa : UInt32) (xb xc : UInt64) (q : Bool) (hR : q = (decide (4 ≤ z ∧ z ≤ 64 ∧ n ≤ 4096 ∧ 0 ≤ t ∧ t < z) && (decide (0 < t) || (xa, xb, xc) == zero))) (A : Option Addr) (c : Nat) (w : World) :
    Calls Try.prog 25 #[.agg (sigC z (.slice A n c) t (xa, xb, xc))] w fun e w' => e = .returned (.bool q) ∧ Gr w w' := by
  have g0 := Lib.hid ((Gr.refl w).alloc (.cells (sigC z (.slice A n c) t (xa, xb, xc)) 45))
  by_cases h0 : 4 ≤ z
  · by_cases h1 : z ≤ 64
    · by_cases h2 : (n : Int) ≤ 4096
      · by_cases h3 : 0 ≤ t
        · by_cases h4 : t < z
          · by_cases h5 : 0 < t
            · obtain rfl : q = true := by rw [hR]; simp; omega
              clear hR
              go_enter Try.func25, Try.ntmps25
              go_wp2
              go_ret
              exact ⟨rfl, g0.out⟩
            · by_cases y0 : xa = 0
              · subst y0
                by_cases y1 : xb = 0
                · subst y1
                  by_cases y2 : xc = 0
                  · subst y2
                    obtain rfl : q = true := by rw [hR]; simp [zero]; omega
                    clear hR
                    go_enter Try.func25, Try.ntmps25
                    go_wp2
                    go_ret
                    exact ⟨rfl, g0.out⟩
                  · have v2 : ¬ n64 xc = 0 := fun e => y2 (by have := e.trans n64_zero.symm; rwa [n64_inj] at this)
                    have u2 : (n64 xc == 0) = false := by simp [v2]
                    obtain rfl : q = false := by rw [hR]; simp [zero, y2]; omega
                    clear hR
                    go_enter Try.func25, Try.ntmps25
                    go_wp2
                    go_ret
                    exact ⟨rfl, g0.out⟩
                · have v1 : ¬ n64 xb = 0 := fun e => y1 (by have := e.trans n64_zero.symm; rwa [n64_inj] at this)
                  have u1 : (n64 xb == 0) = false := by simp [v1]
                  obtain rfl : q = false := by rw [hR]; simp [zero, y1]; omega
                  clear hR
                  go_enter Try.func25, Try.ntmps25
                  go_wp2
                  go_ret
                  exact ⟨rfl, g0.out⟩
              · have v0 : ¬ n32 xa = 0 := fun e => y0 (by have := e.trans n32_zero.symm; rwa [n32_inj] at this)
                have u0 : (n32 xa == 0) = false := by simp [v0]
                obtain rfl : q = false := by rw [hR]; simp [zero, y0]; omega
                clear hR
                go_enter Try.func25, Try.ntmps25
                go_wp2
                go_ret
                exact ⟨rfl, g0.out⟩
          · obtain rfl : q = false := by rw [hR]; simp; omega
            clear hR
            go_enter Try.func25, Try.ntmps25
            go_wp2
            go_ret
            exact ⟨rfl, g0.out⟩
        · obtain rfl : q = false := by rw [hR]; simp; omega
          clear hR
          go_enter Try.func25, Try.ntmps25
          go_wp2
          go_ret
          exact ⟨rfl, g0.out⟩
      · obtain rfl : q = false := by rw [hR]; simp; omega
        clear hR
        go_enter Try.func25, Try.ntmps25
        go_wp2
        go_ret
        exact ⟨rfl, g0.out⟩
    · obtain rfl : q = false := by rw [hR]; simp; omega
      clear hR
      go_enter Try.func25, Try.ntmps25
      go_wp2
      go_ret
      exact ⟨rfl, g0.out⟩
  · obtain rfl : q = false := by rw [hR]; simp; omega
    clear hR
    go_enter Try.func25, Try.ntmps25
    go_wp2
    go_ret
    exact ⟨rfl, g0.out⟩
theorem refRight_any (s : Sig) (A : Option Addr) (c : Nat) (w : World) : Calls Try.prog 25 #[sigV s A c] w fun e w' => e = .returned (.bool (right s)) ∧ Gr w w' := by
  obtain ⟨z, bs, t, xa, xb, xc⟩ := s
  exact refRight_raw z t bs.length xa xb xc _ rfl A c w
theorem sum_le (x y : UInt64) : (sum x y).length ≤ 16 := by
  simp only [sum, be8, List.length_append, List.length_map, List.length_range]
  omega
theorem refNum_is (z : Int) (w : World) (hz : 0 ≤ z) (hz2 : z < 18446744073709551616) : Calls Try.prog 45 #[.int .u64 (n64 (UInt64.ofInt z))] w fun e w' => e = .returned (str (num z.toNat)) ∧ Gr w w' := by
  have := refNum_any (UInt64.ofInt z) w
  rwa [ofInt_toNat hz hz2] at this
theorem refNum_nat (n : Nat) (w : World) (hz2 : n < 18446744073709551616) : Calls Try.prog 45 #[.int .u64 (n64 (UInt64.ofNat n))] w fun e w' => e = .returned (str (num n)) ∧ Gr w w' := by
  have := refNum_any (UInt64.ofNat n) w
  rwa [UInt64.toNat_ofNat', Nat.mod_eq_of_lt hz2] at this
set_option maxRecDepth 100000 in
set_option maxHeartbeats 8000000 in
theorem refPut_any (s : Sig) (A : Option Addr) (c : Nat) (w : World) (hr : SR w w.heap.size A s.bs) :
    Calls Try.prog 24 #[sigV s A c] w fun e w' => e = .returned (str (putB s)) ∧ Gr w w' := by
  have hro := Lib.hid (fun w => refRight_any s A c w)
  have g0 := Lib.hid ((Gr.refl w).alloc (.cells (sigC s.size (.slice A s.bs.length c) s.tail s.last) 45))
  have bx := Lib.hid (Blk.new w 45 (sigC s.size (.slice A s.bs.length c) s.tail s.last))
  have hr' := Lib.hid hr
  clear hr
  obtain ⟨pb, hpb⟩ : ∃ pb, putB s = pb := ⟨_, rfl⟩
  rw [hpb]
  cases hq : right s
  · rw [hq] at hro
    obtain rfl : pb = [] := by rw [← hpb]; unfold putB; rw [hq]; rfl
    clear hpb
    go_enter Try.func24, Try.ntmps24
    go_wp2_with fail
    go_at_call 25
    refine (hro.out _).mono ?_
    rintro e w1 ⟨rfl, g1⟩
    have G1 := Lib.hid (Gr.trans g0.out g1)
    clear g1 g0 hro bx
    go_wp2
    go_ret
    exact ⟨rfl, G1.out⟩
  · rw [hq] at hro
    obtain ⟨h1, h2, h3, h4, h5, _⟩ := right_spec hq
    have hp := Lib.hid (hpb.symm.trans (putB_right hq))
    have hpl := Lib.hid (fun k => putN_le s k hq)
    have hps := Lib.hid (putN_succ s)
    have hp0 := Lib.hid (putN_zero s)
    have a1 := num_length 9 s.size.toNat (by omega)
    have a2 := num_length 9 s.bs.length (by omega)
    have hn0 := Lib.hid (fun w => refNum_is s.size w (by omega) (by omega))
    have hn1 := Lib.hid (fun w => refNum_nat s.bs.length w (by omega))
    have hn2 := Lib.hid (fun w => refNum_is s.tail w (by omega) (by omega))
    have a3 := num_length 9 s.tail.toNat (by omega)
    have a4 := signB_le s.last
    clear hq hpb
    go_enter Try.func24, Try.ntmps24
    go_wp2_with fail
    go_at_call 25
    refine (hro.out _).mono ?_
    rintro e w1 ⟨rfl, g1⟩
    have b1 := Lib.hid (blk_more bx.out g1)
    have G1 := Lib.hid (Gr.trans g0.out g1)
    clear g1 g0 hro bx
    go_wp2
    refine region_grow (by kernel_rfl) (by kernel_rfl) ?_
    refine GW.p1 (.pointer (some ⟨w.heap.size, 0, none⟩)) rfl trivial (kn0 (t := 1) (c := .pointer (some ⟨w.heap.size, 0, none⟩)) (by kernel_rfl) rfl) (fun ρ w' hρ hg => by simp [execOp, hρ, go_sem]) ?_
    refine GW.p1 (.int .i64 s.size) rfl trivial (kn (t := 8) (j := 0) (by kernel_rfl)) (fun ρ w' hρ hg => by simp [execOp, hρ, go_sem, (hg.cell (p := ⟨w.heap.size, 0, none⟩) b1.out.lt).trans (b1.out.cell 0)]) ?_
    refine GW.p1 (.int .u64 (n64 (UInt64.ofInt s.size))) rfl trivial (kn (t := 9) (j := 1) (by kernel_rfl)) (fun ρ w' hρ hg => by simp [execOp, hρ, go_sem]) ?_
    refine GW.call1 (eqv (str (num s.size.toNat))) rfl trivial rfl Try.func45 (by kernel_rfl) (by kernel_rfl) (eqv_lasts _) (kn (t := 10) (j := 2) (by kernel_rfl)) (fun v w' hg hv => ?_) ?_
    · obtain rfl : v = _ := hv
      refine (hn0.out w').mono ?_
      rintro e w9 ⟨rfl, hg9⟩
      exact ⟨_, rfl, rfl, hg9⟩
    refine GW.p1 (.pointer (some ⟨w.heap.size, 1, none⟩)) rfl trivial (kn0 (t := 1) (c := .pointer (some ⟨w.heap.size, 0, none⟩)) (by kernel_rfl) rfl) (fun ρ w' hρ hg => by simp [execOp, hρ, go_sem]) ?_
    refine GW.p1 (.slice A s.bs.length c) rfl trivial (kn (t := 12) (j := 4) (by kernel_rfl)) (fun ρ w' hρ hg => by simp [execOp, hρ, go_sem, (hg.cell (p := ⟨w.heap.size, 1, none⟩) b1.out.lt).trans (b1.out.cell 1)]) ?_
    refine GW.lenV rfl trivial rfl Try.underlying43 (kn (t := 13) (j := 5) (by kernel_rfl)) ?_
    refine GW.p1 (.int .u64 (n64 (UInt64.ofNat s.bs.length))) rfl trivial (kn (t := 14) (j := 6) (by kernel_rfl)) (fun ρ w' hρ hg => by simp [execOp, hρ, go_sem]) ?_
    refine GW.call1 (eqv (str (num s.bs.length))) rfl trivial rfl Try.func45 (by kernel_rfl) (by kernel_rfl) (eqv_lasts _) (kn (t := 15) (j := 7) (by kernel_rfl)) (fun v w' hg hv => ?_) ?_
    · obtain rfl : v = _ := hv
      refine (hn1.out w').mono ?_
      rintro e w9 ⟨rfl, hg9⟩
      exact ⟨_, rfl, rfl, hg9⟩
    refine GW.cat (num s.size.toNat) (num s.bs.length) (by first | omega | (simp; done) | (simp; omega)) rfl trivial rfl (kn (t := 11) (j := 3) (by kernel_rfl)) (kn (t := 16) (j := 8) (by kernel_rfl)) ?_
    refine GW.mv rfl trivial (.inr rfl) (kn (t := 17) (j := 9) (by kernel_rfl)) (eqv_lasts _) ?_
    refine GW.done (by simp) (by kernel_rfl) (fun w' hg_ => ?_)
    intro v0 _ v1 _ v2 _ v3 _ v4 _ v5 _ v6 _ v7 _ v8 _ v9 _ v10 h10
    obtain rfl : v10 = (str ((num s.size.toNat) ++ (num s.bs.length))) := h10
    simp only [GFin, Act.put, List.setIfInBounds_toArray, List.set_cons_succ, List.set_cons_zero]
    have b3 := Lib.hid (blk_more b1.out hg_)
    have G3 := Lib.hid (Gr.trans G1.out hg_)
    rename_i w3x
    rw [← hp0.out]
    clear hg_ G1 b1 hp0 a1 a2 hn0 hn1
    obtain ⟨w3, hw3⟩ : ∃ w3, w' = w3 := ⟨_, rfl⟩
    subst hw3
    go_wp2
    go_loopw [3, 4] (fun out i wr => ∃ k : Nat, k ≤ s.bs.length ∧ i = .int .i64 (k : Int) ∧ out = str (putN s k) ∧ Gr w' wr) (fun _ i _ => s.bs.length - (intOf i).toNat)
    case atStart => exact ⟨0, by omega, rfl, rfl, Gr.refl w'⟩
    case round =>
      obtain ⟨k, hk, rfl, rfl, hg⟩ := hrel
      have b4 := Lib.hid (blk_more b3.out hg)
      have z1 := b4.out.cell 1
      by_cases h : k < s.bs.length
      · obtain ⟨ad, hA, hlt, e0, e1, e2⟩ := ((hr'.out.below (Gr.trans G3.out hg)).more (Below.size (Gr.trans G3.out hg))).at_ h
        have hsu := Lib.hid (hps.out k h)
        have hl5 := hpl.out k
        subst hA
        have hlt2 : (ad.add (k * 3)).block < wr.heap.size := by rw [block_of_add]; exact hlt
        generalize s.bs[k] = x at *
        have a5 := num_length 9 x.1.toNat (Nat.lt_of_lt_of_le x.1.toNat_lt (by decide))
        have a6 := sum_le x.2.1 x.2.2
        have hnx := Lib.hid (fun w => refNum_any x.1.toUInt64 w)
        rw [word_nat] at hnx
        have hg' := Lib.hid hg
        have hsu : Hid (putN s k ++ (num x.1.toNat ++ sum x.2.1 x.2.2) = putN s (k + 1)) := hsu
        generalize putN s k = P at *
        clear hpl hps hg
        go_wp2
        refine region_grow (by kernel_rfl) (by kernel_rfl) ?_
        refine GW.mv rfl trivial (.inl rfl) (kn0 (t := 3) (c := str P) (by kernel_rfl) rfl) (eqv_lasts _) ?_
        refine GW.p1 (.pointer (some ⟨w.heap.size, 1, none⟩)) rfl trivial (kn0 (t := 1) (c := .pointer (some ⟨w.heap.size, 0, none⟩)) (by kernel_rfl) rfl) (fun ρ w' hρ hg => by simp [execOp, hρ, go_sem]) ?_
        refine GW.p1 (.slice (some ad) s.bs.length c) rfl trivial (kn (t := 26) (j := 1) (by kernel_rfl)) (fun ρ w' hρ hg => by simp [execOp, hρ, go_sem, (hg.cell (p := ⟨w.heap.size, 1, none⟩) b4.out.lt).trans (b4.out.cell 1)]) ?_
        refine GW.mv rfl trivial (.inl rfl) (kn0 (t := 4) (c := .int .i64 (k : Int)) (by kernel_rfl) rfl) (eqv_lasts _) ?_
        refine GW.p2 (.pointer (some (ad.add (k * 3)))) rfl trivial (kn (t := 27) (j := 2) (by kernel_rfl)) (kn (t := 28) (j := 3) (by kernel_rfl)) (fun ρ w' h1 h2 hg => by show ((Instr.indexAt 43 (ρ (.tmp 27)) (ρ (.tmp 28)) >>= fun v => pure (Next.value v)) : Sem Next).run Try.prog w' = _; rw [h1, h2, Sem.run_bind, run_idxR w' Try.underlying43 (size := 3) (by kernel_rfl) ad _ _ k h]; simp) ?_
        refine GW.p1 (.pointer (some (ad.add (k * 3)))) rfl trivial (kn (t := 29) (j := 4) (by kernel_rfl)) (fun ρ w' hρ hg => by simp [execOp, hρ, go_sem]) ?_
        refine GW.p1 (.int .u32 (n32 x.1)) rfl trivial (kn (t := 30) (j := 5) (by kernel_rfl)) (fun ρ w' hρ hg => by simp [execOp, hρ, go_sem, (hg.cell (p := (ad.add (k * 3))) hlt2).trans e0]) ?_
        refine GW.p1 (.int .u64 (n64 x.1.toUInt64)) rfl trivial (kn (t := 31) (j := 6) (by kernel_rfl)) (fun ρ w' hρ hg => by simp [execOp, hρ, go_sem]) ?_
        refine GW.call1 (eqv (str (num x.1.toNat))) rfl trivial rfl Try.func45 (by kernel_rfl) (by kernel_rfl) (eqv_lasts _) (kn (t := 32) (j := 7) (by kernel_rfl)) (fun v w' hg hv => ?_) ?_
        · obtain rfl : v = _ := hv
          refine (hnx.out w').mono ?_
          rintro e w9 ⟨rfl, hg9⟩
          exact ⟨_, rfl, rfl, hg9⟩
        refine GW.cat P (num x.1.toNat) (by first | omega | (simp; done) | (simp; omega)) rfl trivial rfl (kn (t := 25) (j := 0) (by kernel_rfl)) (kn (t := 33) (j := 8) (by kernel_rfl)) ?_
        refine GW.p1 (.pointer (some ⟨w.heap.size, 1, none⟩)) rfl trivial (kn0 (t := 1) (c := .pointer (some ⟨w.heap.size, 0, none⟩)) (by kernel_rfl) rfl) (fun ρ w' hρ hg => by simp [execOp, hρ, go_sem]) ?_
        refine GW.p1 (.slice (some ad) s.bs.length c) rfl trivial (kn (t := 35) (j := 10) (by kernel_rfl)) (fun ρ w' hρ hg => by simp [execOp, hρ, go_sem, (hg.cell (p := ⟨w.heap.size, 1, none⟩) b4.out.lt).trans (b4.out.cell 1)]) ?_
        refine GW.mv rfl trivial (.inl rfl) (kn0 (t := 4) (c := .int .i64 (k : Int)) (by kernel_rfl) rfl) (eqv_lasts _) ?_
        refine GW.p2 (.pointer (some (ad.add (k * 3)))) rfl trivial (kn (t := 36) (j := 11) (by kernel_rfl)) (kn (t := 37) (j := 12) (by kernel_rfl)) (fun ρ w' h1 h2 hg => by show ((Instr.indexAt 43 (ρ (.tmp 36)) (ρ (.tmp 37)) >>= fun v => pure (Next.value v)) : Sem Next).run Try.prog w' = _; rw [h1, h2, Sem.run_bind, run_idxR w' Try.underlying43 (size := 3) (by kernel_rfl) ad _ _ k h]; simp) ?_
        refine GW.p1 (.pointer (some ⟨(ad.add (k * 3)).block, (ad.add (k * 3)).off + 1, none⟩)) rfl trivial (kn (t := 38) (j := 13) (by kernel_rfl)) (fun ρ w' hρ hg => by simp [execOp, hρ, go_sem]) ?_
        refine GW.p1 (.agg #[.int .u64 (n64 x.2.1), .int .u64 (n64 x.2.2)]) rfl trivial (kn (t := 39) (j := 14) (by kernel_rfl)) (fun ρ w' hρ hg => by simp [execOp, hρ, go_sem, (hg.cell (p := ⟨(ad.add (k * 3)).block, (ad.add (k * 3)).off + 1, none⟩) hlt2).trans e1, (hg.cell (p := ⟨(ad.add (k * 3)).block, (ad.add (k * 3)).off + 2, none⟩) hlt2).trans e2, Nat.add_assoc]) ?_
        refine GW.call1 (eqv (str (sum x.2.1 x.2.2))) rfl trivial rfl Try.func46 (by kernel_rfl) (by kernel_rfl) (eqv_lasts _) (kn (t := 40) (j := 15) (by kernel_rfl)) (fun v w' hg hv => ?_) ?_
        · obtain rfl : v = _ := hv
          refine (refSum_any x.2.1 x.2.2 w').mono ?_
          rintro e w9 ⟨rfl, hg9⟩
          exact ⟨_, rfl, rfl, hg9⟩
        refine GW.cat (P ++ (num x.1.toNat)) (sum x.2.1 x.2.2) (by first | omega | (simp; done) | (simp; omega)) rfl trivial rfl (kn (t := 34) (j := 9) (by kernel_rfl)) (kn (t := 41) (j := 16) (by kernel_rfl)) ?_
        refine GW.mv rfl trivial (.inr rfl) (kn (t := 42) (j := 17) (by kernel_rfl)) (eqv_lasts _) ?_
        refine GW.done (by simp) (by kernel_rfl) (fun w' hg_ => ?_)
        intro v0 _ v1 _ v2 _ v3 _ v4 _ v5 _ v6 _ v7 _ v8 _ v9 _ v10 _ v11 _ v12 _ v13 _ v14 _ v15 _ v16 _ v17 _ v18 h18
        obtain rfl : v18 = (str ((P ++ (num x.1.toNat)) ++ (sum x.2.1 x.2.2))) := h18
        simp only [GFin, Act.put, List.setIfInBounds_toArray, List.set_cons_succ, List.set_cons_zero]
        have G6 := Lib.hid (Gr.trans hg'.out hg_)
        clear hg_
        rw [show (P ++ num x.1.toNat) ++ sum x.2.1 x.2.2 = putN s (k + 1) by rw [List.append_assoc]; exact hsu.out]
        go_wp2
        go_roundw
        case rel => exact ⟨k + 1, by omega, by go_num, rfl, G6.out⟩
        case measure => simp [intOf]; omega
      · obtain rfl : k = s.bs.length := by omega
        have hl5 := hpl.out s.bs.length
        have x2 := b4.out.cell 2
        have G5 := Lib.hid (Gr.trans G3.out hg)
        generalize putN s s.bs.length = P at *
        clear hpl hps hg hr'
        go_wp2_with fail
        go_at_call 45
        refine (hn2.out _).mono ?_
        rintro e w6 ⟨rfl, g6⟩
        have b6 := Lib.hid (blk_more b4.out g6)
        have y2 := b6.out.cell 2
        have G6 := Lib.hid (Gr.trans G5.out g6)
        have hq6 : (P ++ num s.tail.toNat).length ≤ 1000000 := by rw [List.length_append]; omega
        clear g6 x2 G5 b4 z1
        by_cases ht : 0 < s.tail
        · rw [if_pos ht] at hp
          have a6 := sum_le s.last.2.1 s.last.2.2
          have a7 := num_length 9 s.last.1.toNat (Nat.lt_of_lt_of_le s.last.1.toNat_lt (by decide))
          have hnx := Lib.hid (fun w => refNum_any s.last.1.toUInt64 w)
          rw [word_nat] at hnx
          go_wp2
          generalize P ++ num s.tail.toNat = Q at *
          refine region_grow (by kernel_rfl) (by kernel_rfl) ?_
          refine GW.mv rfl trivial (.inl rfl) (kn0 (t := 3) (c := str Q) (by kernel_rfl) rfl) (eqv_lasts _) ?_
          refine GW.p1 (.pointer (some ⟨w.heap.size, 3, none⟩)) rfl trivial (kn0 (t := 1) (c := .pointer (some ⟨w.heap.size, 0, none⟩)) (by kernel_rfl) rfl) (fun ρ w' hρ hg => by simp [execOp, hρ, go_sem]) ?_
          refine GW.p1 (.pointer (some ⟨w.heap.size, 3, none⟩)) rfl trivial (kn (t := 53) (j := 1) (by kernel_rfl)) (fun ρ w' hρ hg => by simp [execOp, hρ, go_sem]) ?_
          refine GW.p1 (.int .u32 (n32 s.last.1)) rfl trivial (kn (t := 54) (j := 2) (by kernel_rfl)) (fun ρ w' hρ hg => by simp [execOp, hρ, go_sem, (hg.cell (p := ⟨w.heap.size, 3, none⟩) b6.out.lt).trans (b6.out.cell 3)]) ?_
          refine GW.p1 (.int .u64 (n64 s.last.1.toUInt64)) rfl trivial (kn (t := 55) (j := 3) (by kernel_rfl)) (fun ρ w' hρ hg => by simp [execOp, hρ, go_sem]) ?_
          refine GW.call1 (eqv (str (num s.last.1.toNat))) rfl trivial rfl Try.func45 (by kernel_rfl) (by kernel_rfl) (eqv_lasts _) (kn (t := 56) (j := 4) (by kernel_rfl)) (fun v w' hg hv => ?_) ?_
          · obtain rfl : v = _ := hv
            refine (hnx.out w').mono ?_
            rintro e w9 ⟨rfl, hg9⟩
            exact ⟨_, rfl, rfl, hg9⟩
          refine GW.cat Q (num s.last.1.toNat) (by first | omega | (simp; done) | (simp; omega)) rfl trivial rfl (kn (t := 52) (j := 0) (by kernel_rfl)) (kn (t := 57) (j := 5) (by kernel_rfl)) ?_
          refine GW.p1 (.pointer (some ⟨w.heap.size, 3, none⟩)) rfl trivial (kn0 (t := 1) (c := .pointer (some ⟨w.heap.size, 0, none⟩)) (by kernel_rfl) rfl) (fun ρ w' hρ hg => by simp [execOp, hρ, go_sem]) ?_
          refine GW.p1 (.pointer (some ⟨w.heap.size, 4, none⟩)) rfl trivial (kn (t := 59) (j := 7) (by kernel_rfl)) (fun ρ w' hρ hg => by simp [execOp, hρ, go_sem]) ?_
          refine GW.p1 (.agg #[.int .u64 (n64 s.last.2.1), .int .u64 (n64 s.last.2.2)]) rfl trivial (kn (t := 60) (j := 8) (by kernel_rfl)) (fun ρ w' hρ hg => by simp [execOp, hρ, go_sem, (hg.cell (p := ⟨w.heap.size, 4, none⟩) b6.out.lt).trans (b6.out.cell 4), (hg.cell (p := ⟨w.heap.size, 5, none⟩) b6.out.lt).trans (b6.out.cell 5)]) ?_
          refine GW.call1 (eqv (str (sum s.last.2.1 s.last.2.2))) rfl trivial rfl Try.func46 (by kernel_rfl) (by kernel_rfl) (eqv_lasts _) (kn (t := 61) (j := 9) (by kernel_rfl)) (fun v w' hg hv => ?_) ?_
          · obtain rfl : v = _ := hv
            refine (refSum_any s.last.2.1 s.last.2.2 w').mono ?_
            rintro e w9 ⟨rfl, hg9⟩
            exact ⟨_, rfl, rfl, hg9⟩
          refine GW.cat (Q ++ (num s.last.1.toNat)) (sum s.last.2.1 s.last.2.2) (by first | omega | (simp; done) | (simp; omega)) rfl trivial rfl (kn (t := 58) (j := 6) (by kernel_rfl)) (kn (t := 62) (j := 10) (by kernel_rfl)) ?_
          refine GW.mv rfl trivial (.inr rfl) (kn (t := 63) (j := 11) (by kernel_rfl)) (eqv_lasts _) ?_
          refine GW.done (by simp) (by kernel_rfl) (fun w' hg_ => ?_)
          intro v0 _ v1 _ v2 _ v3 _ v4 _ v5 _ v6 _ v7 _ v8 _ v9 _ v10 _ v11 _ v12 h12
          obtain rfl : v12 = (str ((Q ++ (num s.last.1.toNat)) ++ (sum s.last.2.1 s.last.2.2))) := h12
          simp only [GFin, Act.put, List.setIfInBounds_toArray, List.set_cons_succ, List.set_cons_zero]
          rw [show (Q ++ num s.last.1.toNat) ++ sum s.last.2.1 s.last.2.2 = pb by rw [hp.out, List.append_assoc]; rfl]
          go_wp2
          go_ret
          exact ⟨rfl, Gr.trans G6.out hg_⟩
        · rw [if_neg ht, List.append_nil] at hp
          go_wp2
          go_ret
          exact ⟨by rw [hp.out]; rfl, G6.out⟩
end Sg
end Go.Proofs.Ytcibngbgcnnjnaa
