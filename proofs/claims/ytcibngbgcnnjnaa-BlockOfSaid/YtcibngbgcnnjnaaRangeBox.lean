/- A range over an iterator that writes a variable of its own: the contract, and the caller's law. No condition. -/
import Derived.Test.YtcibngbgcnnjnaaRound
import Derived.Test.YtcibngbgcnnjnaaMemB
set_option linter.unusedVariables false
set_option linter.unusedSimpArgs false
namespace Go.Proofs.Ytcibngbgcnnjnaa
open Go Go.RowKit Go.Shelf W
variable {F : Fence} {n : Nat} {P : Program}
/-- What is said stays said when only block b is written, and more memory is made. -/
def Bears {α : Type} (b : Nat) (J : List α → World → Prop) : Prop := ∀ s A B, J s A → Kb b A B → J s B
/-- The iterator's contract: it may write block b. -/
def SeqB {α : Type} (F : Fence) (n : Nat) (P : Program) (g : Nat) (lb : Array Value) (encs : α → Array Value) (b : Nat) (Kp : World → World → Prop) (S Sp : List α → Prop) (N : Nat) (W : World) : Prop :=
  ∀ (l : Nat) (J Jx : List α → World → Prop), Bears b J → Bears b Jx →
    (∀ pre x W1, J pre W1 → pre.length < N → YieldAt F (n - 1) P l (encs x) W1 fun e W' =>
      (e = .returned (.bool true) ∧ J (pre ++ [x]) W' ∧ Kp W1 W') ∨ (e = .returned (.bool false) ∧ Jx (pre ++ [x]) W')) →
    J [] W → CallsIn F n P g (#[.func (.yield l) #[] #[]] ++ lb) W fun e W' => (∃ v, e = .returned v) ∧ ((∃ xs, S xs ∧ J xs W') ∨ (∃ pre, Sp pre ∧ Jx pre W'))
/-- The loop's two records, at d and behind it. -/
structure Booked (W : World) (d : Nat) (r : Loop) : Prop where
  hd : W.heap[d]? = some (.deferred (some []))
  hl : W.heap[d + 1]? = some (.loop r)
theorem Booked.bears {A B : World} {d b : Nat} {r : Loop} (h : Booked A d r) (k : Kb b A B) (hb : b < d) : Booked B d r :=
  ⟨(World.grownBy.block k d (Array.getElem?_eq_some_iff.1 h.hd).1 (by simp; omega)).trans h.hd,
   (World.grownBy.block k (d + 1) (Array.getElem?_eq_some_iff.1 h.hl).1 (by simp; omega)).trans h.hl⟩
theorem Booked.put {W : World} {d : Nat} {r : Loop} (h : Booked W d r) (r' : Loop) : Booked (W.putObj (d + 1) (.loop r')) d r' :=
  ⟨(World.putObj_heap_other (by omega)).trans h.hd, World.putObj_heap_same (Array.getElem?_eq_some_iff.1 h.hl).1⟩
theorem Booked.keeps {A B : World} {d : Nat} {r : Loop} (h : Booked A d r) (k : KeepsFrom d A B) : Booked B d r :=
  ⟨k.same _ _ (Nat.le_refl _) h.hd rfl, k.same _ _ (by omega) h.hl rfl⟩
theorem wpIn_rangeBox {α : Type} {g : Operand} {ps : Array Tmp} {assign body : Code} {Q : Exit → Act → World → Prop} {a : Act} {w : World} {b : Nat} (hbw : b < w.heap.size)
    (hro : F.round = none) (h1 : 1 ≤ n) {gf : Nat} {lb : Array Value} (hg : a.eval g = .func (.func gf) #[] lb) (hFg : F.fn gf) (eg : ∀ args w, (callFunc gf args).run P w = .ok (.enter gf args) w)
    {encs : α → Array Value} {Kp : World → World → Prop} {S Sp : List α → Prop} {N : Nat} (hseq : ∀ W, Below w.heap.size w W → SeqB F (n - 1) P gf lb encs b Kp S Sp N W)
    (hKt : ∀ {A B C : World}, Kp A B → Kp B C → Kp A C) (hKb : ∀ (W : World) (l : Nat) (o : Obj), w.heap.size ≤ l → Kp W (W.putObj l o)) (hps : ∀ x, (encs x).size = ps.size)
    (I : List α → World → Prop) (Ix : Code → List α → World → Prop) (hI : OwnFrom w.heap.size I) (hIx : ∀ c, OwnFrom w.heap.size (Ix c)) (hB : Bears b I) (hBx : ∀ c, Bears b (Ix c)) (h0 : I [] w) (a₁ : α → Act)
    (hassign : ∀ (l : Nat) (x : α) (W : World) (K : Act → World → Prop), K (a₁ x) W →
      assign.wpIn (F.inRound l) (n - 1 - 1) P (Exit.then K (fun _ _ _ => False)) { tmps := (ps.zip (encs x)).foldl (fun t (p, v) => t.setIfInBounds p v) a.tmps, defers := [] } W)
    (hbody : ∀ (l : Nat) (pre : List α) (x : α) (W : World), I pre W → pre.length < N → body.wpIn (F.inRound l) (n - 1 - 1) P (ownPostG w.heap.size Kp I Ix (pre ++ [x]) W) (a₁ x) W)
    (hdone : ∀ (D : Nat) (xs : List α) (W : World), w.heap.size ≤ D → S xs → I xs W → W.heap[D]? = some (.deferred (some [])) → Q .normal { a with defers := { target := .collected D, args := #[] } :: a.defers } W)
    (hstop : ∀ (D : Nat) (c : Code) (pre : List α) (W : World), w.heap.size ≤ D → Sp pre → Ix c pre W → W.heap[D]? = some (.deferred (some [])) → c.wpIn F n P Q { a with defers := { target := .collected D, args := #[] } :: a.defers } W) :
    (Code.rangeFunc g ps assign body).wpIn F n P Q a w := by
  refine wpIn_rangeFunc fun fn hfn => ?_
  rw [hro]
  obtain ⟨d, hd⟩ : ∃ d, w.heap.size = d := ⟨_, rfl⟩
  obtain ⟨R, hR⟩ : ∃ R : LoopState → Option Code → Loop, R = fun st pe => { state := st, pending := pe, fn, tmps := a.tmps, params := ps, assign, body, defers := d } := ⟨_, rfl⟩
  have grow : Below w.heap.size w ((w.alloc (.deferred (some []))).alloc (.loop (R .ready none))) := ((Below.refl _ w).alloc (Nat.le_refl _) _).alloc (by simp) _
  have book : Booked ((w.alloc (.deferred (some []))).alloc (.loop (R .ready none))) d (R .ready none) := by
    refine ⟨?_, ?_⟩
    · rw [← hd]
      exact (Below.heap_alloc _ _ _ (by simp)).trans (World.alloc_heap_new w _)
    · have h := World.alloc_heap_new (w.alloc (.deferred (some []))) (.loop (R .ready none))
      rw [World.size_alloc, hd] at h
      exact h
  have start : I [] ((w.alloc (.deferred (some []))).alloc (.loop (R .ready none))) := hI.alloc _ (hI.alloc _ h0)
  have enter : (Instr.enterLoop fn a.tmps ps assign body none).run P w = .ok (w.heap.size + 1, [{ target := .collected w.heap.size, args := #[] }]) ((w.alloc (.deferred (some []))).alloc (.loop (R .ready none))) := by
    rw [hR, ← hd]
    exact run_enterLoop_outer _ _ _ _ _
  generalize (w.alloc (.deferred (some []))).alloc (.loop (R .ready none)) = V at grow book start enter
  have turnI : ∀ {s : List α} {W : World} {r : Loop} (r' : Loop), I s W → Booked W d r → I s (W.putObj (d + 1) (.loop r')) := fun r' hi hk => hI.putObj _ hi (by omega) hk.hl rfl
  have turnX : ∀ {c : Code} {s : List α} {W : World} {r : Loop} (r' : Loop), Ix c s W → Booked W d r → Ix c s (W.putObj (d + 1) (.loop r')) := fun r' hi hk => (hIx _).putObj _ hi (by omega) hk.hl rfl
  rw [hd] at enter
  refine ⟨d + 1, [{ target := .collected d, args := #[] }], V, { target := .fn (.func gf) lb, args := #[.func (.yield (d + 1)) #[] #[]] }, V, gf, #[.func (.yield (d + 1)) #[] #[]] ++ lb, V, enter,
    by simp only [resolve, hg]; simp [go_sem], fun f' hf' => by simp [Target.leads] at hf'; subst hf'; exact hFg, by simp [invoke, go_sem, eg], fun _ => h1, ?_⟩
  refine (hseq V grow (d + 1) (fun s W => I s W ∧ Booked W d (R .ready none)) (fun s W => ∃ c, Ix c s W ∧ Booked W d (R .done (some c)))
    (fun s A B h k => ⟨hB s A B h.1 k, h.2.bears k (by omega)⟩)
    (fun s A B ⟨c, hc, hk⟩ k => ⟨c, hBx c s A B hc k, hk.bears k (by omega)⟩) ?_ ⟨start, book⟩).mono ?_
  · rintro pre x W ⟨hi, hk⟩ hN
    have yields := run_yield (P := P) (args := encs x) hk.hl (by rw [hR]; exact hps x)
    rw [hR] at yields
    have begins := run_beginRound (P := P) hk.hl (by rw [hR])
    refine ⟨fn, _, assign, body, yields, roundIn_of_wpIn hfn (hassign _ x W _ ⟨_, begins, ?_⟩)⟩
    have busy := hk.put { R .ready none with state := .busy }
    have close : ∀ (j : Option Code) (Y : World), Booked Y d { R .ready none with state := .busy } →
        (Instr.endRound (d + 1) j).run P Y = .ok (.bool j.isNone) (Y.putObj (d + 1) (.loop (R (if j.isNone then .ready else .done) j))) := fun j Y hy => by
      have h := run_endRound (P := P) j hy.hl
      rw [hR] at h ⊢
      exact h
    have leave : ∀ (c : Code) (Y : World), KeepsFrom w.heap.size (W.putObj (d + 1) (.loop { R .ready none with state := .busy })) Y → Ix c (pre ++ [x]) Y →
        ∃ v W', (Instr.endRound (d + 1) (some c)).run P Y = .ok v W' ∧ ((Ending.returned v = .returned (.bool true) ∧ (I (pre ++ [x]) W' ∧ Booked W' d (R .ready none)) ∧ Kp W W') ∨ (Ending.returned v = .returned (.bool false) ∧ ∃ c, Ix c (pre ++ [x]) W' ∧ Booked W' d (R .done (some c)))) := fun c Y k3 hx => by
      have hy := busy.keeps (hd ▸ k3)
      exact ⟨_, _, close (some c) Y hy, .inr ⟨rfl, c, turnX _ hx hy, hy.put _⟩⟩
    refine wpIn_mono (hbody _ pre x _ (turnI _ hi hk) hN) fun e a3 Y hp => ?_
    cases e with
    | normal =>
      obtain ⟨k3, kp3, hi3⟩ := hp
      have hy := busy.keeps (hd ▸ k3)
      exact ⟨_, _, close none Y hy, .inl ⟨rfl, ⟨turnI _ hi3 hy, hy.put _⟩, hKt (hKt (hKb _ _ _ (by omega)) kp3) (hKb _ _ _ (by omega))⟩⟩
    | ret => exact leave .ret Y hp.1 hp.2
    | exit id => exact leave (.exit id) Y hp.1 hp.2
    | goto t => exact leave (.goto t) Y hp.1 hp.2
    | panic ch => exact hp.elim
    | outgrown => exact hp.elim
  · rintro e Y ⟨⟨v, rfl⟩, (⟨xs, hS, hi, hk⟩ | ⟨pre, hSp, c, hi, hk⟩)⟩
    · have ends := run_endLoop (P := P) hk.hl (by rw [hR]; simp)
      rw [hR] at ends
      exact ⟨none, _, ends, hdone d xs _ (by omega) hS (turnI _ hi hk) ((World.putObj_heap_other (by omega)).trans hk.hd)⟩
    · have ends := run_endLoop (P := P) hk.hl (by rw [hR]; simp)
      rw [hR] at ends
      exact ⟨some c, _, ends, hstop d c pre _ (by omega) hSp (turnX _ hi hk) ((World.putObj_heap_other (by omega)).trans hk.hd)⟩
end Go.Proofs.Ytcibngbgcnnjnaa

