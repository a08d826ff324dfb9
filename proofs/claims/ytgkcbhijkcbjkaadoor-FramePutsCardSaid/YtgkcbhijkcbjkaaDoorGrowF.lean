/- A region that draws its order and makes two new blocks: they are two. No condition. -/
import Derived.Test.YtgkcbhijkcbjkaaDoorGrowM
set_option linter.unusedVariables false
set_option linter.unusedSimpArgs false
namespace Go.Proofs.YtgkcbhijkcbjkaaDoor
open Go Go.RowKit
section
variable {P : Program} {ops : Array Oper} {Q : Exit → Act → World → Prop} {a₀ : Act} {w₀ : World} {Φ : Nat → Ass}
/-- An operation that makes a block of its own. -/
structure MakesNew (P : Program) (ops : Array Oper) (Φ : Nat → Ass) (w₀ : World) (m p d : Nat) : Prop where
  lt : p < m
  op : ∃ o T cs, ops[p]? = some o ∧ o.dst = some d ∧ o.guard = none ∧ o.op = .alloc T ∧ (∀ w, (Instr.alloc T true (.tuple #[])).run P w = .ok (.pointer (some ⟨w.heap.size, 0, none⟩)) (w.alloc (.cells cs T))) ∧ Φ p = isNew w₀.heap.size T cs
theorem MakesNew.mk' {m p d : Nat} (o : Oper) (T : TypeId) (cs : Array Value) (h : p < m) (h1 : ops[p]? = some o) (h2 : o.dst = some d) (h3 : o.guard = none) (h4 : o.op = .alloc T)
    (h5 : ∀ w, (Instr.alloc T true (.tuple #[])).run P w = .ok (.pointer (some ⟨w.heap.size, 0, none⟩)) (w.alloc (.cells cs T))) (h6 : Φ p = isNew w₀.heap.size T cs) : MakesNew P ops Φ w₀ m p d := ⟨h, o, T, cs, h1, h2, h3, h4, h5, h6⟩
theorem new_step {m p q dp dq : Nat} (hk : growOk ops a₀.tmps.size = true) (hl : ∀ j, Lasts (Φ j)) (hp : MakesNew P ops Φ w₀ m p dp) (hq : MakesNew P ops Φ w₀ m q dq) (hpq : p ≠ q)
    {listed : Array Bool} {a : Act} {w : World} (I : GInv ops a₀ w₀ Φ listed a w) (hr : p ∈ Region.ready .any ops listed) {K : Act → World → Prop}
    (hK : ∀ a' w', GInv ops a₀ w₀ Φ (listed.setIfInBounds p true) a' w' → ((listed.setIfInBounds p true).getD q false = true → slotOf a' dp ≠ slotOf a' dq) → K a' w') : wpOp P ops Q p K a w := by
  obtain ⟨_, o, T, cs, ho, hd, hg, hop, hrun, hΦ⟩ := hp
  obtain ⟨_, oq, Tq, cq, hoq, hdq, _, _, _, hΦq⟩ := hq
  have hds : dp < a.tmps.size := by rw [I.size]; exact ((growOk_spec hk ho).1 dp hd).1
  have hne : dp ≠ dq := fun e => by
    subst e
    exact hpq (dst_unique hk ho hoq hd hdq)
  unfold wpOp
  simp only [ho]
  rw [if_pos (by simp [Region.wanted, hg])]
  refine .inl ?_
  have hx : (execOp a.eval o).run P w = .ok (.value (.pointer (some ⟨w.heap.size, 0, none⟩))) (w.alloc (.cells cs T)) := by
    obtain ⟨dst, op, ty, pos, after, guard⟩ := o
    simp only at hop
    subst hop
    show ((Instr.alloc T true (.tuple #[]) >>= fun v => pure (Next.value v)) : Sem Next).run P w = _
    rw [Sem.run_bind, hrun]
    rfl
  unfold Oper.wp
  rw [hx, Oper.upon_value]
  have hgr : Gr w (w.alloc (.cells cs T)) := (Gr.refl w).alloc _
  refine hK _ _ (ginv_step hk I hr ho hl hgr (by rw [hΦ]; exact ⟨_, rfl, I.gr.size, Blk.new w T cs⟩)) fun hlq => ?_
  rw [hd, slotOf_put_same hds, slotOf_put_ne hne]
  rw [getD_set_ne false hpq] at hlq
  have := I.done q oq dq hoq hlq hdq
  rw [hΦq] at this
  obtain ⟨g, hv, _, hb⟩ := this
  rw [hv]
  intro e
  have hlt := hb.lt
  injection e with e
  injection e with e
  injection e with e1
  omega
theorem wpAny_growF {m p q dp dq : Nat} (hm : m ≤ ops.size) (hk : growOk ops a₀.tmps.size = true) (hst : ∀ i o, i < m → ops[i]? = some o → StepOK P ops Q a₀ w₀ Φ i o) (hl : ∀ j, Lasts (Φ j))
    (hds : ∀ i o, i < m → ops[i]? = some o → o.dst ≠ none) (htail : tailT ops m = true) (hp : MakesNew P ops Φ w₀ m p dp) (hq : MakesNew P ops Φ w₀ m q dq) (hpq : p ≠ q)
    (hfin : ∀ w, Gr w₀ w → GFin Φ (fun a w => slotOf a dp ≠ slotOf a dq → wpList P ops Q (ops.toList.drop m) a w) (ops.toList.take m) 0 a₀ w) :
    ∀ (fuel : Nat) (listed : Array Bool) (a : Act) (w : World), unlisted listed ≤ fuel → GInv ops a₀ w₀ Φ listed a w → (∀ i, m ≤ i → listed.getD i false ≠ true) →
      (listed.getD p false = true → listed.getD q false = true → slotOf a dp ≠ slotOf a dq) → wpAny P .any ops Q fuel listed a w := by
  intro fuel
  obtain ⟨ht1, ht2⟩ := tailT_spec htail
  obtain ⟨op, hop, hopd⟩ : ∃ o, ops[p]? = some o ∧ o.dst = some dp := by obtain ⟨_, o, T, cs, ho, hd, _⟩ := hp; exact ⟨o, ho, hd⟩
  obtain ⟨oq, hoq, hoqd⟩ : ∃ o, ops[q]? = some o ∧ o.dst = some dq := by obtain ⟨_, o, T, cs, ho, hd, _⟩ := hq; exact ⟨o, ho, hd⟩
  have fin : ∀ (fuel : Nat) (listed : Array Bool) (a : Act) (w : World), unlisted listed ≤ fuel → GInv ops a₀ w₀ Φ listed a w → (∀ i, m ≤ i → listed.getD i false ≠ true) → (∀ i, i < m → listed.getD i false = true) → slotOf a dp ≠ slotOf a dq → wpAny P .any ops Q fuel listed a w := fun fuel listed a w hu I hno hall hne =>
    tail_any hk ht1 fuel m listed a w (Nat.le_refl _) hm I.lsize (fun i hi => by
        rcases Nat.lt_or_ge i m with h | h
        · exact ⟨fun _ => h, fun _ => hall i h⟩
        · exact ⟨fun h' => absurd h' (hno i h), fun h' => absurd h' (by omega)⟩) hu
      (gfin_use hm hk (R := fun a w => slotOf a dp ≠ slotOf a dq → wpList P ops Q (ops.toList.drop m) a w) I hall hno hds (ops.toList.take m) 0 a₀ rfl I.defers.symm I.size.symm (by rintro t ⟨j, o, hj, _⟩; omega) (fun _ _ => rfl) (hfin w I.gr) hne)
  induction fuel with
  | zero =>
    intro listed a w hu I hno hJ
    have hall : ∀ i, i < m → listed.getD i false = true := fun i hi => by
      cases h : listed.getD i false with
      | true => rfl
      | false =>
        have := unlisted_set (listed := listed) (i := i) (by rw [getD_same (by rw [I.lsize]; omega)]; exact h)
        omega
    exact fin 0 listed a w hu I hno hall (hJ (hall p hp.lt) (hall q hq.lt))
  | succ fuel ih =>
    intro listed a w hu I hno hJ
    by_cases hall : ∀ i, i < m → listed.getD i false = true
    · exact fin _ listed a w hu I hno hall (hJ (hall p hp.lt) (hall q hq.lt))
    · refine ⟨fun hr => absurd (fun i hi => all_listed hk I.lsize hr i (by omega)) hall, fun i hi => ?_⟩
      obtain ⟨hun, o, ho, hedge⟩ := mem_ready.1 hi
      have him : i < m := by
        rcases Nat.lt_or_ge i m with h | h
        · exact h
        · exfalso
          rcases Nat.lt_or_ge m i with h2 | h2
          · obtain ⟨e, he, hb, hej⟩ := ht1 i o h2 ho
            exact hno e.on (by omega) (hedge e he hb)
          · have him' : i = m := by omega
            subst him'
            exact hall (ht2 o listed ho I.closed hedge)
      have hcnt := unlisted_set hun
      have hno' : ∀ j, m ≤ j → (listed.setIfInBounds i true).getD j false ≠ true := fun j hj => by
        rw [getD_set_ne false (by omega)]; exact hno j hj
      by_cases hip : i = p
      · subst hip
        exact new_step hk hl hp hq hpq I hi fun a' w' I' hne => ih _ _ _ (by omega) I' hno' fun _ h => hne h
      · by_cases hiq : i = q
        · subst hiq
          exact new_step hk hl hq hp (Ne.symm hpq) I hi fun a' w' I' hne => ih _ _ _ (by omega) I' hno' fun h _ => Ne.symm (hne h)
        · refine (hst i o him ho).2 a w _ I.gr (knownAs_of_inv hk I hi) fun v w' hg hv => ih _ _ _ (by omega) (ginv_step hk I hi ho hl hg hv) hno' fun h1 h2 => ?_
          rw [getD_set_ne false hip] at h1
          rw [getD_set_ne false hiq] at h2
          cases hd : o.dst with
          | none => exact hJ h1 h2
          | some d =>
            have e1 : d ≠ dp := fun e => by
              subst e
              exact hip (dst_unique hk ho hop hd hopd)
            have e2 : d ≠ dq := fun e => by
              subst e
              exact hiq (dst_unique hk ho hoq hd hoqd)
            rw [slotOf_put_ne e1, slotOf_put_ne e2]
            exact hJ h1 h2
/-- As GW.tailT, of two new blocks: they are two. -/
theorem GW.tailF {m : Nat} (p q dp dq : Nat) (hm : m ≤ ops.size) (hd : dstB ops m = true) (ht : Go.Proofs.YtgkcbhijkcbjkaaDoor.tailT ops m = true) (hp : MakesNew P ops Φ w₀ m p dp) (hq : MakesNew P ops Φ w₀ m q dq) (hpq : p ≠ q)
    (hfin : ∀ w, Gr w₀ w → GFin Φ (fun a w => slotOf a dp ≠ slotOf a dq → wpList P ops Q (ops.toList.drop m) a w) (ops.toList.take m) 0 a₀ w) : GW P ops Q a₀ w₀ Φ m :=
  fun hk hl hst fuel listed a w hu I hno => wpAny_growF hm hk (fun i o hi ho => hst i o hi ho) hl (dstB_spec hd) ht hp hq hpq hfin fuel listed a w hu (I Φ hl) (fun i _ => hno i) (fun h => absurd h (hno p))
end
end Go.Proofs.YtgkcbhijkcbjkaaDoor
