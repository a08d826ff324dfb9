/- A step more for a region that draws its order: a new block; rows of several cells. No condition. -/
import Derived.Test.YtpkbdodclkgjpaaOwnRows
set_option linter.unusedVariables false
set_option linter.unusedSimpArgs false
namespace Go.Proofs.Ytpkbdodclkgjpaa
open Go Go.RowKit W
/-- A pointer to a new block, from B on. -/
def isNew (B : Nat) (T : TypeId) (cs : Array Value) : Ass := fun v w => ∃ g, v = .pointer (some ⟨g, 0, none⟩) ∧ B ≤ g ∧ Blk w g T cs
theorem isNew_lasts (B : Nat) (T : TypeId) (cs : Array Value) : Lasts (isNew B T cs) := fun _ _ _ hg ⟨g, hv, h1, h2⟩ => ⟨g, hv, h1, h2.below hg h2.lt⟩
section
variable {P : Program} {ops : Array Oper} {Q : Exit → Act → World → Prop} {a₀ : Act} {w₀ : World} {Φ : Nat → Ass} {i : Nat} {o : Oper}
theorem GW.alloc {T : TypeId} (cs : Array Value) (ho : ops[i]? = some o) (hgd : GuardOK ops Φ i o) (hop : o.op = .alloc T)
    (hal : ∀ w, (Instr.alloc T true (.tuple #[])).run P w = .ok (.pointer (some ⟨w.heap.size, 0, none⟩)) (w.alloc (.cells cs T)))
    (hrest : GW P ops Q a₀ w₀ (setA Φ i (isNew w₀.heap.size T cs)) (i + 1)) : GW P ops Q a₀ w₀ Φ i :=
  GW.op (isNew w₀.heap.size T cs) ho (isNew_lasts _ _ _) hgd (fun a w hg _ => by
    refine .val (v := .pointer (some ⟨w.heap.size, 0, none⟩)) (w' := w.alloc (.cells cs T)) ?_ ((Gr.refl w).alloc _) ⟨_, rfl, hg.size, Blk.new w T cs⟩
    obtain ⟨dst, op, ty, pos, after, guard⟩ := o
    simp only at hop
    subst hop
    show ((Instr.alloc T true (.tuple #[]) >>= fun v => pure (Next.value v)) : Sem Next).run P w = _
    rw [Sem.run_bind, hal]
    rfl) hrest
end
/-! ### rows of several cells -/
theorem addr_at (a : Addr) (i j : Nat) (h : 0 < j) : a.add (i + j) = ⟨(a.add i).block, (a.add i).off + j, none⟩ := by
  unfold Addr.add
  by_cases h0 : i = 0
  · subst h0; simp; omega
  · simp [h0]; omega
theorem flat_at {α : Type} (f : α → List Value) (size : Nat) (hf : ∀ x, (f x).length = size) : ∀ (ls : List α) (k j : Nat) (h : k < ls.length), j < size → (ls.flatMap f)[k * size + j]? = (f ls[k])[j]? := by
  intro ls
  induction ls with
  | nil => intro k j h; simp at h
  | cons x ls ih =>
    intro k j h hj
    rw [List.flatMap_cons]
    cases k with
    | zero => rw [List.getElem?_append_left (by rw [hf]; omega)]; simp
    | succ k =>
      rw [List.getElem?_append_right (by rw [hf, Nat.succ_mul]; omega), hf, show (k + 1) * size + j - size = k * size + j from by rw [Nat.succ_mul]; omega, ih k j (by simpa using h) hj]
      simp
theorem flat_len {α : Type} (f : α → List Value) (size : Nat) (hf : ∀ x, (f x).length = size) (ls : List α) : (ls.flatMap f).length = ls.length * size := by
  induction ls with
  | nil => simp
  | cons x ls ih => rw [List.flatMap_cons, List.length_append, ih, hf, List.length_cons, Nat.succ_mul]; omega
/-- What lies in row k. -/
theorem Reads.row {α : Type} {w : World} {B size n : Nat} {A : Option Addr} {ls : List α} {f : α → List Value} (hf : ∀ x, (f x).length = size) (hn : n = ls.length) (h : Reads w B size A n (ls.flatMap f)) {k : Nat} (hk : k < ls.length) (h0 : 0 < size) :
    ∃ ad, A = some ad ∧ ad.block < B ∧ (∀ u, (f ls[k])[0]? = some u → w.cell? (ad.add (k * size)) = some u) ∧ ∀ j u, 0 < j → j < size → (f ls[k])[j]? = some u → w.cell? ⟨(ad.add (k * size)).block, (ad.add (k * size)).off + j, none⟩ = some u := by
  obtain ⟨ad, hA, hB, hc⟩ := h.2 (by omega)
  refine ⟨ad, hA, hB, fun u hu => ?_, fun j u hj1 hj2 hu => ?_⟩
  · have := hc (k * size + 0) u (by rw [flat_at f size hf ls k 0 hk h0]; exact hu)
    exact this
  · rw [← addr_at ad (k * size) j hj1]
    exact hc _ u (by rw [flat_at f size hf ls k j hk hj2]; exact hu)
end Go.Proofs.Ytpkbdodclkgjpaa

