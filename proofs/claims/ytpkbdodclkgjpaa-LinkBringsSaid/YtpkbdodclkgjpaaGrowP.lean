/- A region that draws its order: its m-th operation may change memory that was there; some that stand ahead of it may come behind it. No condition. -/
import Derived.Test.YtpkbdodclkgjpaaGrowL
set_option linter.unusedVariables false
set_option linter.unusedSimpArgs false
namespace Go.Proofs.Ytpkbdodclkgjpaa
open Go Go.RowKit
def inL (E : List Nat) (i : Nat) : Bool := E.any fun j => Nat.beq j i
/-- What is known behind the m-th operation: its value, and what the late ones yield. -/
def lateA (Φ : Nat → Ass) (E : List Nat) (m : Nat) (v9 : Value) : Nat → Ass := fun i => bif Nat.beq i m then eqv v9 else bif inL E i then Φ i else noneA i
def lateB (ops : Array Oper) (m : Nat) (E : List Nat) : Bool := (List.range m).all fun j => inL E j || (clo ops m (edgesOf ops m)).any fun k => Nat.beq k j
theorem lateB_spec {ops : Array Oper} {m : Nat} {E : List Nat} (h : lateB ops m E = true) (o : Oper) (listed : Array Bool) (ho : ops[m]? = some o)
    (hc : ∀ i o, ops[i]? = some o → listed.getD i false = true → ∀ e ∈ o.after, Region.binds .any e = true → listed.getD e.on false = true)
    (he : ∀ e ∈ o.after, Region.binds .any e = true → listed.getD e.on false = true) (j : Nat) (hj : j < m) (hn : inL E j = false) : listed.getD j false = true := by
  have h3 := (List.all_eq_true.1 h) j (List.mem_range.2 hj)
  rw [hn, Bool.false_or] at h3
  obtain ⟨k, hk, hkj⟩ := List.any_eq_true.1 h3
  have hkj := Nat.eq_of_beq_eq_true hkj
  subst hkj
  refine clo_listed hc m _ (fun i hi => ?_) k hk
  unfold edgesOf at hi
  rw [ho] at hi
  simp only at hi
  obtain ⟨e, hem, rfl⟩ := List.mem_map.1 hi
  obtain ⟨hem, hb⟩ := List.mem_filter.1 hem
  exact he e (by simpa using hem) hb
section
variable {P : Program} {ops : Array Oper} {Q : Exit → Act → World → Prop} {a₀ : Act} {w₀ : World} {Φ : Nat → Ass}
theorem lateA_lasts {E : List Nat} {m : Nat} {v9 : Value} (hl : ∀ j, Lasts (Φ j)) : ∀ j, Lasts (lateA Φ E m v9 j) := fun j => by
  unfold lateA
  cases Nat.beq j m with
  | true => exact eqv_lasts v9
  | false =>
    cases inL E j with
    | true => exact hl j
    | false => exact noneA_lasts j
/-- wpAny_growT, where all but those of E are listed. -/
theorem wpAny_growE {m : Nat} {E : List Nat} (hm : m ≤ ops.size) (hk : growOk ops a₀.tmps.size = true) (hst : ∀ i o, i < m → inL E i = true → ops[i]? = some o → StepOK P ops Q a₀ w₀ Φ i o) (hl : ∀ j, Lasts (Φ j))
    (hds : ∀ i o, i < m → ops[i]? = some o → o.dst ≠ none) (htail : tailT ops m = true)
    (hfin : ∀ w, Gr w₀ w → GFin Φ (fun a w => wpList P ops Q (ops.toList.drop m) a w) (ops.toList.take m) 0 a₀ w) :
    ∀ (fuel : Nat) (listed : Array Bool) (a : Act) (w : World), unlisted listed ≤ fuel → GInv ops a₀ w₀ Φ listed a w → (∀ i, m ≤ i → listed.getD i false ≠ true) → (∀ i, i < m → inL E i = false → listed.getD i false = true) → wpAny P .any ops Q fuel listed a w := by
  intro fuel
  obtain ⟨ht1, ht2⟩ := tailT_spec htail
  have fin : ∀ (fuel : Nat) (listed : Array Bool) (a : Act) (w : World), unlisted listed ≤ fuel → GInv ops a₀ w₀ Φ listed a w → (∀ i, m ≤ i → listed.getD i false ≠ true) → (∀ i, i < m → listed.getD i false = true) → wpAny P .any ops Q fuel listed a w := fun fuel listed a w hu I hno hall =>
    tail_any hk ht1 fuel m listed a w (Nat.le_refl _) hm I.lsize (fun i hi => by
        rcases Nat.lt_or_ge i m with h | h
        · exact ⟨fun _ => h, fun _ => hall i h⟩
        · exact ⟨fun h' => absurd h' (hno i h), fun h' => absurd h' (by omega)⟩) hu
      (gfin_use hm hk (R := fun a w => wpList P ops Q (ops.toList.drop m) a w) I hall hno hds (ops.toList.take m) 0 a₀ rfl I.defers.symm I.size.symm (by rintro t ⟨j, o, hj, _⟩; omega) (fun _ _ => rfl) (hfin w I.gr))
  induction fuel with
  | zero =>
    intro listed a w hu I hno hall'
    refine fin 0 listed a w hu I hno fun i hi => ?_
    cases h : listed.getD i false with
    | true => rfl
    | false =>
      have := unlisted_set (listed := listed) (i := i) (by rw [getD_same (by rw [I.lsize]; omega)]; exact h)
      omega
  | succ fuel ih =>
    intro listed a w hu I hno hall'
    by_cases hall : ∀ i, i < m → listed.getD i false = true
    · exact fin _ listed a w hu I hno hall
    · refine ⟨fun hr => absurd (fun i hi => all_listed hk I.lsize hr i (by omega)) hall, fun i hi => ?_⟩
      obtain ⟨hun, o, ho, hedge⟩ := mem_ready.1 hi
      have him : i < m := by
        rcases Nat.lt_or_ge i m with h | h
        · exact h
        · exfalso
          rcases Nat.lt_or_ge m i with h2 | h2
          · obtain ⟨e, he, hb, hej⟩ := ht1 i o h2 ho
            exact hno e.on (by omega) (hedge e he hb)
          · have him' : i = m := by omega
            subst him'
            exact hall (ht2 o listed ho I.closed hedge)
      have hiE : inL E i = true := by
        cases h : inL E i with
        | true => rfl
        | false =>
          have := hall' i him h
          rw [getD_same (by rw [I.lsize]; omega), this] at hun
          cases hun
      have hcnt := unlisted_set hun
      exact (hst i o him hiE ho).2 a w _ I.gr (knownAs_of_inv hk I hi) fun v w' hg hv => ih _ _ _ (by omega) (ginv_step hk I hi ho hl hg hv) (fun j hj => by
        rw [getD_set_ne false (by omega)]; exact hno j hj) (fun j hj hn => getD_set_true (hall' j hj hn))
theorem wpAny_lateE {m : Nat} (E : List Nat) {om : Oper} {d : Tmp} (hom : ops[m]? = some om) (homd : om.dst = some d) (homg : om.guard = none) (hk : growOk ops a₀.tmps.size = true) (hst : ∀ i o, i < m → ops[i]? = some o → StepOK P ops Q a₀ w₀ Φ i o) (hl : ∀ j, Lasts (Φ j))
    (hds : ∀ i o, i < m + 1 → ops[i]? = some o → o.dst ≠ none) (hB : lateB ops m E = true) (hT : tailT ops (m + 1) = true) (hE : ∀ i, inL E i = true → ∃ c, Φ i = eqv c) (hmE : inL E m = false)
    (hM : ∀ (a : Act) (w : World), Gr w₀ w → (∀ t r, knownAt ops m t = some r → KnownAs Φ a₀ a w t r) → ∃ v9 w9, (execOp a.eval om).run P w = .ok (.value v9) w9 ∧
      (∀ i o, i < m → inL E i = true → ops[i]? = some o → StepOK P ops Q a₀ w9 (lateA Φ E m v9) i o) ∧ ∀ w', Gr w9 w' → GFin (lateA Φ E m v9) (fun a w => wpList P ops Q (ops.toList.drop (m + 1)) a w) (ops.toList.take (m + 1)) 0 a₀ w') :
    ∀ (fuel : Nat) (listed : Array Bool) (a : Act) (w : World), unlisted listed ≤ fuel → GInv ops a₀ w₀ Φ listed a w → (∀ i, m ≤ i → listed.getD i false ≠ true) → wpAny P .any ops Q fuel listed a w := by
  have hms : m < ops.size := (Array.getElem?_eq_some_iff.1 hom).1
  obtain ⟨ht1, ht2⟩ := tailT_spec hT
  intro fuel
  induction fuel with
  | zero =>
    intro listed a w hu I hno
    have := unlisted_set (listed := listed) (i := m) (by rw [getD_same (by rw [I.lsize]; omega)]; have := hno m (Nat.le_refl _); cases h : listed.getD m false with | true => exact absurd h this | false => rfl)
    omega
  | succ fuel ih =>
    intro listed a w hu I hno
    refine ⟨fun hr => absurd (all_listed hk I.lsize hr m hms) (hno m (Nat.le_refl _)), fun i hi => ?_⟩
    obtain ⟨hun, o, ho, hedge⟩ := mem_ready.1 hi
    have hcnt := unlisted_set hun
    rcases Nat.lt_or_ge i m with him | him
    · exact (hst i o him ho).2 a w _ I.gr (knownAs_of_inv hk I hi) fun v w' hg hv => ih _ _ _ (by omega) (ginv_step hk I hi ho hl hg hv) (fun j hj => by
        rw [getD_set_ne false (by omega)]; exact hno j hj)
    · have him' : i = m := by
        rcases Nat.lt_or_ge (m + 1) i with h2 | h2
        · obtain ⟨e, he, hb, hej⟩ := ht1 i o h2 ho
          exact absurd (hedge e he hb) (hno e.on (by omega))
        · rcases Nat.lt_or_ge m i with h3 | h3
          · have : i = m + 1 := by omega
            subst this
            exact absurd (ht2 o listed ho I.closed hedge m (by omega)) (hno m (Nat.le_refl _))
          · omega
      subst him'
      obtain rfl : o = om := by rw [ho] at hom; exact Option.some.inj hom
      obtain ⟨v9, w9, hrun, hst2, hfin2⟩ := hM a w I.gr (knownAs_of_inv hk I hi)
      have I0 : GInv ops a₀ w₀ noneA listed a w := ⟨I.gr, I.defers, I.size, fun _ _ _ _ _ _ => trivial, I.rest, I.closed, I.lsize⟩
      have I1 := ginv_step hk I0 hi ho noneA_lasts (v := v9) (Gr.refl w) trivial
      have hil' : i < listed.size := by rw [I.lsize]; exact hms
      have hds' : d < a.tmps.size := by rw [I.size]; exact ((growOk_spec hk ho).1 d homd).1
      have I2 : GInv ops a₀ w9 (lateA Φ E i v9) (listed.setIfInBounds i true) (a.put o.dst v9) w9 := by
        refine ⟨Gr.refl w9, I1.defers, I1.size, fun j oj dj hj hlj hdj => ?_, I1.rest, I1.closed, I1.lsize⟩
        by_cases e : i = j
        · subst e
          obtain rfl : oj = o := by rw [ho] at hj; exact (Option.some.inj hj).symm
          rw [homd] at hdj
          cases hdj
          unfold lateA
          rw [show Nat.beq i i = true from Nat.beq_refl i, homd, slotOf_put_same hds']
          exact rfl
        · have hlj' : listed.getD j false = true := by rw [getD_set_ne false e] at hlj; exact hlj
          have hne : d ≠ dj := fun e2 => by
            subst e2
            exact e (dst_unique hk ho hj homd hdj)
          have hb : Nat.beq j i = false := by
            cases hb : Nat.beq j i with
            | false => rfl
            | true => exact absurd (Nat.eq_of_beq_eq_true hb).symm e
          unfold lateA
          rw [hb]
          cases hE' : inL E j with
          | false => exact trivial
          | true =>
            obtain ⟨c, hc⟩ := hE j hE'
            have := I.done j oj dj hj hlj' hdj
            rw [hc] at this
            rw [homd, slotOf_put_ne hne]
            show Φ j _ _
            rw [hc]
            exact this
      unfold wpOp
      rw [ho]
      simp only
      rw [if_pos (by simp [Region.wanted, homg])]
      refine .inl ?_
      unfold Oper.wp
      rw [hrun]
      refine wpAny_growE (m := i + 1) (E := E) hms hk (fun k ok hk' hkE hok => ?_) (lateA_lasts hl) hds hT hfin2 fuel _ _ w9 (by omega) I2 (fun k hk' => ?_) (fun k hk' hn => ?_)
      · rcases Nat.lt_or_ge k i with h | h
        · exact hst2 k ok h hkE hok
        · have : k = i := by omega
          subst this
          rw [hmE] at hkE
          cases hkE
      · rw [getD_set_ne false (by omega)]; exact hno k (by omega)
      · rcases Nat.lt_or_ge k i with h | h
        · exact getD_set_true (lateB_spec hB o listed ho I.closed hedge k h hn)
        · have : k = i := by omega
          subst this
          simp [hil']
/-- The m-th operation changes memory; those of E may come behind it. -/
theorem GW.lateE {m : Nat} (E : List Nat) {om : Oper} {d : Tmp} (hom : ops[m]? = some om) (homd : om.dst = some d) (homg : om.guard = none) (hd : dstB ops (m + 1) = true) (hB : lateB ops m E = true) (hT : Go.Proofs.Ytpkbdodclkgjpaa.tailT ops (m + 1) = true) (hE : ∀ i, inL E i = true → ∃ c, Φ i = eqv c) (hmE : inL E m = false)
    (hM : ∀ (a : Act) (w : World), Gr w₀ w → (∀ t r, knownAt ops m t = some r → KnownAs Φ a₀ a w t r) → ∃ v9 w9, (execOp a.eval om).run P w = .ok (.value v9) w9 ∧
      (∀ i o, i < m → inL E i = true → ops[i]? = some o → StepOK P ops Q a₀ w9 (lateA Φ E m v9) i o) ∧ ∀ w', Gr w9 w' → GFin (lateA Φ E m v9) (fun a w => wpList P ops Q (ops.toList.drop (m + 1)) a w) (ops.toList.take (m + 1)) 0 a₀ w') : GW P ops Q a₀ w₀ Φ m :=
  fun hk hl hst fuel listed a w hu I hno => wpAny_lateE E hom homd homg hk (fun i o hi ho => hst i o hi ho) hl (dstB_spec hd) hB hT hE hmE hM fuel listed a w hu (I Φ hl) (fun i _ => hno i)
/-- A late operation on one operand, on memory as it was. -/
theorem late_p1 {i : Nat} {o : Oper} {x : Operand} {c v : Value} (ho : ops[i]? = some o) (hgu : o.guard = none) (hΦ : Φ i = eqv v) (hx : Knows ops Φ a₀ w₀ i x (eqv c))
    (h : ∀ (ρ : Operand → Value) (w : World), ρ x = c → Gr w₀ w → (execOp ρ o).run P w = .ok (.value v) w) : StepOK P ops Q a₀ w₀ Φ i o :=
  ⟨by rw [hΦ]; exact eqv_lasts v, fun a w K hg hkn hK => wpOp_res (φ := eqv v) ho (by simp [Region.wanted, hgu]) (.here (h a.eval w (hx a w hg hkn) hg) rfl) fun u w' hg' hu => hK u w' hg' (by rw [hΦ]; exact hu)⟩
end
end Go.Proofs.Ytpkbdodclkgjpaa

