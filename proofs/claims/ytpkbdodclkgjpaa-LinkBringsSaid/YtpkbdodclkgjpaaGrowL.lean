/- A region that draws its order, one of whose operations may come behind the first store. No condition. -/
import Derived.Test.YtpkbdodclkgjpaaGrowB
set_option linter.unusedVariables false
set_option linter.unusedSimpArgs false
namespace Go.Proofs.Ytpkbdodclkgjpaa
open Go Go.RowKit
/-- As tailB, but that the m-th operation may come ahead of the p-th. -/
def tailP (ops : Array Oper) (m p : Nat) : Bool := ((List.range ops.size).all fun i => Nat.ble i m || match ops[i]? with
  | some o => o.after.any fun e => Region.binds .any e && Nat.beq (e.on + 1) i
  | none => true) && (match ops[m]? with
  | some o => (List.range m).all fun j => Nat.beq j p || o.after.any fun e => Region.binds .any e && Nat.beq e.on j
  | none => true) && (match ops[m + 1]? with
  | some o => o.after.any fun e => Region.binds .any e && Nat.beq e.on p
  | none => true)
theorem tailP_spec {ops : Array Oper} {m p : Nat} (h : tailP ops m p = true) : (∀ i o, m < i → ops[i]? = some o → ∃ e ∈ o.after, Region.binds .any e = true ∧ e.on + 1 = i) ∧
    (∀ o, ops[m]? = some o → ∀ j, j < m → j ≠ p → ∃ e ∈ o.after, Region.binds .any e = true ∧ e.on = j) ∧ (∀ o, ops[m + 1]? = some o → ∃ e ∈ o.after, Region.binds .any e = true ∧ e.on = p) := by
  unfold tailP at h
  rw [Bool.and_eq_true, Bool.and_eq_true] at h
  refine ⟨?_, ?_, ?_⟩
  · intro i o hi ho
    have h1 := (List.all_eq_true.1 h.1.1) i (List.mem_range.2 (Array.getElem?_eq_some_iff.1 ho).1)
    have h2 : Nat.ble i m = false := by
      cases hb : Nat.ble i m with
      | false => rfl
      | true => have := Nat.le_of_ble_eq_true hb; omega
    simp only [ho, h2, Bool.false_or, Array.any_eq_true'] at h1
    obtain ⟨e, he, h4⟩ := h1
    simp only [Bool.and_eq_true] at h4
    exact ⟨e, he, h4.1, Nat.eq_of_beq_eq_true h4.2⟩
  · intro o ho j hj hjp
    have h1 := h.1.2
    simp only [ho] at h1
    have h3 := (List.all_eq_true.1 h1) j (List.mem_range.2 hj)
    have h2 : Nat.beq j p = false := by
      cases hb : Nat.beq j p with
      | false => rfl
      | true => exact absurd (Nat.eq_of_beq_eq_true hb) hjp
    simp only [h2, Bool.false_or, Array.any_eq_true'] at h3
    obtain ⟨e, he, h4⟩ := h3
    simp only [Bool.and_eq_true] at h4
    exact ⟨e, he, h4.1, Nat.eq_of_beq_eq_true h4.2⟩
  · intro o ho
    have h1 := h.2
    simp only [ho, Array.any_eq_true'] at h1
    obtain ⟨e, he, h4⟩ := h1
    simp only [Bool.and_eq_true] at h4
    exact ⟨e, he, h4.1, Nat.eq_of_beq_eq_true h4.2⟩
section
variable {P : Program} {ops : Array Oper} {Q : Exit → Act → World → Prop} {a₀ : Act} {w₀ : World} {Φ : Nat → Ass}
theorem wpAny_late {m p t d : Nat} {c v0 : Value} {om op : Oper} {jt jx jy x y : Nat} {ot ox oy : Oper} {T : TypeId} (hpm : p < m) (hk : growOk ops a₀.tmps.size = true)
    (hst : ∀ i o, i < m → ops[i]? = some o → StepOK P ops Q a₀ w₀ Φ i o) (hl : ∀ j, Lasts (Φ j))
    (hds : ∀ i o, i < m → ops[i]? = some o → o.dst ≠ none) (htail : tailP ops m p = true)
    (hop : ops[p]? = some op) (hopg : op.guard = none) (hopd : op.dst = some d) (hpv : ∀ (ρ : Operand → Value) (w : World), ρ (.tmp t) = c → (execOp ρ op).run P w = .ok (.value v0) w)
    (hΦp : ∀ w, Φ p v0 w) (hjt : ops[jt]? = some ot) (hotd : ot.dst = some t) (hjtm : jt < m) (hjtp : jt ≠ p) (hΦt : ∀ v w, Φ jt v w → v = c)
    (hom : ops[m]? = some om) (homg : om.guard = none) (homd : om.dst = none) (homs : om.op = .store T (.tmp x) (.tmp y))
    (hjx : ops[jx]? = some ox) (hoxd : ox.dst = some x) (hjxm : jx < m) (hjxp : jx ≠ p) (hjy : ops[jy]? = some oy) (hoyd : oy.dst = some y) (hjym : jy < m) (hjyp : jy ≠ p)
    (hok : ∀ (ρ : Operand → Value) (w : World), Gr w₀ w → Φ jx (ρ (.tmp x)) w → Φ jy (ρ (.tmp y)) w → ∃ w', (execOp ρ om).run P w = .ok .skip w')
    (hfin : ∀ w, Gr w₀ w → GFin Φ (fun a w => wpList P ops Q (ops.toList.drop m) a w) (ops.toList.take m) 0 a₀ w) :
    ∀ (fuel : Nat) (listed : Array Bool) (a : Act) (w : World), unlisted listed ≤ fuel → GInv ops a₀ w₀ Φ listed a w → (∀ i, m ≤ i → listed.getD i false ≠ true) → wpAny P .any ops Q fuel listed a w := by
  intro fuel
  obtain ⟨ht1, ht2, ht3⟩ := tailP_spec htail
  have hms : m < ops.size := (Array.getElem?_eq_some_iff.1 hom).1
  have fin : ∀ (fuel : Nat) (listed : Array Bool) (a : Act) (w : World), unlisted listed ≤ fuel → GInv ops a₀ w₀ Φ listed a w → (∀ i, m ≤ i → listed.getD i false ≠ true) → (∀ i, i < m → listed.getD i false = true) → wpAny P .any ops Q fuel listed a w := fun fuel listed a w hu I hno hall =>
    tail_any hk ht1 fuel m listed a w (Nat.le_refl _) (by omega) I.lsize (fun i hi => by
        rcases Nat.lt_or_ge i m with h | h
        · exact ⟨fun _ => h, fun _ => hall i h⟩
        · exact ⟨fun h' => absurd h' (hno i h), fun h' => absurd h' (by omega)⟩) hu
      (gfin_use (by omega) hk (R := fun a w => wpList P ops Q (ops.toList.drop m) a w) I hall hno hds (ops.toList.take m) 0 a₀ rfl I.defers.symm I.size.symm (by rintro t ⟨j, o, hj, _⟩; omega) (fun _ _ => rfl) (hfin w I.gr))
  induction fuel with
  | zero =>
    intro listed a w hu I hno
    refine fin 0 listed a w hu I hno fun i hi => ?_
    cases h : listed.getD i false with
    | true => rfl
    | false =>
      have := unlisted_set (listed := listed) (i := i) (by rw [getD_same (by rw [I.lsize]; omega)]; exact h)
      omega
  | succ fuel ih =>
    intro listed a w hu I hno
    by_cases hall : ∀ i, i < m → listed.getD i false = true
    · exact fin _ listed a w hu I hno hall
    · refine ⟨fun hr => absurd (fun i hi => all_listed hk I.lsize hr i (by omega)) hall, fun i hi => ?_⟩
      obtain ⟨hun, o, ho, hedge⟩ := mem_ready.1 hi
      have hcnt := unlisted_set hun
      rcases Nat.lt_or_ge i m with him | him
      · exact (hst i o him ho).2 a w _ I.gr (knownAs_of_inv hk I hi) fun v w' hg hv => ih _ _ _ (by omega) (ginv_step hk I hi ho hl hg hv) (fun j hj => by
          rw [getD_set_ne false (by omega)]; exact hno j hj)
      · obtain rfl : i = m := by
          rcases Nat.lt_or_ge m i with h2 | h2
          · obtain ⟨e, he, hb, hej⟩ := ht1 i o h2 ho
            exact absurd (hedge e he hb) (hno e.on (by omega))
          · omega
        obtain rfl : om = o := by rw [ho] at hom; exact (Option.some.inj hom).symm
        have hall' : ∀ j, j < i → j ≠ p → listed.getD j false = true := fun j hj hjp => by
          obtain ⟨e, he, hb, hej⟩ := ht2 om ho j hj hjp
          have := hedge e he hb
          rwa [hej] at this
        have hpu : listed.getD p false = false := by
          cases h : listed.getD p false with
          | false => rfl
          | true =>
            exfalso
            apply hall
            intro j hj
            by_cases hjp : j = p
            · rw [hjp]; exact h
            · exact hall' j hj hjp
        have hpl : p < listed.size := by rw [I.lsize]; omega
        have hpr : p ∈ Region.ready .any ops listed := by
          rw [mem_ready]
          refine ⟨by rw [getD_same hpl]; exact hpu, op, hop, fun e he hb => ?_⟩
          have := (growOk_spec hk hop).2 e he hb
          exact hall' e.on (by omega) (by omega)
        have I' := ginv_step hk I hpr hop hl (Gr.refl w) (hΦp w)
        rw [hopd] at I'
        have hds' : d < a.tmps.size := by rw [I.size]; exact ((growOk_spec hk hop).1 d hopd).1
        have hne : ∀ {j : Nat} {oj : Oper} {u : Nat}, ops[j]? = some oj → oj.dst = some u → j ≠ p → d ≠ u := fun hj hu hjp e => by
          subst e
          exact hjp (dst_unique hk hj hop hu hopd)
        have hE : ∀ u, d ≠ u → (a.put (some d) v0).eval (.tmp u) = a.eval (.tmp u) := fun u hu => slotOf_put_ne hu v0
        have hx := I.done jx ox x hjx (hall' jx hjxm hjxp) hoxd
        have hy := I.done jy oy y hjy (hall' jy hjym hjyp) hoyd
        have htt : slotOf a t = c := hΦt _ w (I.done jt ot t hjt (hall' jt hjtm hjtp) hotd)
        obtain ⟨w', hrun⟩ := hok a.eval w I.gr hx hy
        have hexec : execOp (a.put (some d) v0).eval om = execOp a.eval om := by
          unfold execOp
          simp only [homs]
          rw [hE x (hne hjx hoxd hjxp), hE y (hne hjy hoyd hjyp)]
        have hW := gfin_use (by omega) hk (R := fun a w => wpList P ops Q (ops.toList.drop i) a w) I' (fun j hj => by
            by_cases hjp : j = p
            · subst hjp; simp [hpl]
            · rw [getD_set_ne false (Ne.symm hjp)]; exact hall' j hj hjp)
          (fun j hj => by rw [getD_set_ne false (by omega)]; exact hno j hj) hds (ops.toList.take i) 0 a₀ rfl I'.defers.symm I'.size.symm (by rintro t ⟨j, o, hj, _⟩; omega) (fun _ _ => rfl) (hfin w I.gr)
        have hgo : ops[i] = om := (Array.getElem?_eq_some_iff.1 ho).2
        have hd : ops.toList.drop i = om :: ops.toList.drop (i + 1) := by
          rw [List.drop_eq_getElem_cons (by simpa using hms)]
          simp [hgo]
        rw [hd] at hW
        have hwant : ∀ b : Act, Region.wanted om (yielded ops b.tmps) = true := fun b => by simp [Region.wanted, homg]
        have hwantp : ∀ b : Act, Region.wanted op (yielded ops b.tmps) = true := fun b => by simp [Region.wanted, hopg]
        have hput : ∀ (b : Act) (u : Value), b.put om.dst u = b := fun b u => by rw [homd]; rfl
        unfold wpList at hW
        rw [if_pos (hwant _)] at hW
        unfold wpOp
        simp only [ho]
        rw [if_pos (hwant _)]
        rcases hW with hW | ⟨hW, hlo⟩
        · refine .inl ?_
          unfold Oper.wp at hW ⊢
          rw [hexec, hrun, Oper.upon_skip, hput] at hW
          rw [hrun, Oper.upon_skip, hput]
          have hms' : (listed.setIfInBounds i true).size = ops.size := by simpa using I.lsize
          have hl2 : ∀ j, (listed.setIfInBounds i true).getD j false = true → j = i ∨ listed.getD j false = true := fun j hj => by
            by_cases e : i = j
            · exact .inl e.symm
            · rw [getD_set_ne false e] at hj; exact .inr hj
          have hp2 : (listed.setIfInBounds i true).getD p true = false := by
            rw [getD_set_ne true (by omega), getD_same hpl]; exact hpu
          have hc2 := unlisted_set hp2
          obtain ⟨f', rfl⟩ : ∃ f', fuel = f' + 1 := ⟨fuel - 1, by omega⟩
          have hready : ∀ j ∈ Region.ready .any ops (listed.setIfInBounds i true), j = p := by
            intro j hj
            obtain ⟨hun2, oj, hoj, hed2⟩ := mem_ready.1 hj
            have hjs : j < ops.size := (Array.getElem?_eq_some_iff.1 hoj).1
            rw [getD_same (by omega)] at hun2
            rcases Nat.lt_trichotomy j i with h | h | h
            · by_cases hjp : j = p
              · exact hjp
              · have := getD_set_true (i := i) (hall' j h hjp)
                rw [this] at hun2
                cases hun2
            · subst h
              have : (listed.setIfInBounds j true).getD j false = true := by simp [show j < listed.size by rw [I.lsize]; exact hjs]
              rw [this] at hun2
              cases hun2
            · exfalso
              rcases Nat.lt_or_ge (i + 1) j with h3 | h3
              · obtain ⟨e, he, hb, hej⟩ := ht1 j oj h hoj
                rcases hl2 e.on (hed2 e he hb) with h4 | h4
                · omega
                · exact hno e.on (by omega) h4
              · obtain rfl : j = i + 1 := by omega
                obtain ⟨e, he, hb, hej⟩ := ht3 oj hoj
                rcases hl2 e.on (hed2 e he hb) with h4 | h4
                · omega
                · rw [hej, hpu] at h4; cases h4
          refine ⟨fun hr => ?_, fun j hj => ?_⟩
          · have := ready_mono hpr (show p ≠ i by omega)
            rw [hr] at this
            cases this
          · obtain rfl := hready j hj
            unfold wpOp
            simp only [hop]
            rw [if_pos (hwantp _)]
            refine .inl ?_
            unfold Oper.wp
            rw [hpv a.eval w' htt, Oper.upon_value, hopd]
            refine tail_any hk (m := i) ht1 f' (i + 1) _ _ _ (by omega) (by omega) (by simpa using hms') (fun k hks => ?_) (by omega) hW
            by_cases hkp : j = k
            · subst hkp
              have : j < (listed.setIfInBounds i true).size := by rw [hms']; omega
              simp [this]
              omega
            · rw [getD_set_ne false hkp]
              by_cases hki : i = k
              · subst hki
                have : i < listed.size := by rw [I.lsize]; exact hks
                simp [this]
              · rw [getD_set_ne false hki]
                constructor
                · intro h
                  rcases Nat.lt_or_ge k (i + 1) with h5 | h5
                  · exact h5
                  · exact absurd h (hno k (by omega))
                · intro h
                  exact hall' k (by omega) (fun e => hkp e.symm)
        · refine .inr ⟨?_, hlo⟩
          unfold Oper.asks at hW ⊢
          rw [hexec] at hW
          exact hW
/-- The operations from the m-th on follow one upon the other, but that the p-th may come behind the m-th, a store: they are walked as ever. -/
theorem GW.tailLate {m : Nat} (p t d : Nat) (c v0 : Value) (om op : Oper) (jt jx jy x y : Nat) (ot ox oy : Oper) (T : TypeId) (hpm : p < m) (hd : dstB ops m = true) (htail : tailP ops m p = true)
    (hop : ops[p]? = some op) (hopg : op.guard = none) (hopd : op.dst = some d) (hpv : ∀ (ρ : Operand → Value) (w : World), ρ (.tmp t) = c → (execOp ρ op).run P w = .ok (.value v0) w)
    (hΦp : ∀ w, Φ p v0 w) (hjt : ops[jt]? = some ot) (hotd : ot.dst = some t) (hjtm : jt < m) (hjtp : jt ≠ p) (hΦt : ∀ v w, Φ jt v w → v = c)
    (hom : ops[m]? = some om) (homg : om.guard = none) (homd : om.dst = none) (homs : om.op = .store T (.tmp x) (.tmp y))
    (hjx : ops[jx]? = some ox) (hoxd : ox.dst = some x) (hjxm : jx < m) (hjxp : jx ≠ p) (hjy : ops[jy]? = some oy) (hoyd : oy.dst = some y) (hjym : jy < m) (hjyp : jy ≠ p)
    (hok : ∀ (ρ : Operand → Value) (w : World), Gr w₀ w → Φ jx (ρ (.tmp x)) w → Φ jy (ρ (.tmp y)) w → ∃ w', (execOp ρ om).run P w = .ok .skip w')
    (hfin : ∀ w, Gr w₀ w → GFin Φ (fun a w => wpList P ops Q (ops.toList.drop m) a w) (ops.toList.take m) 0 a₀ w) : GW P ops Q a₀ w₀ Φ m :=
  fun hk hl hst fuel listed a w hu I hno => wpAny_late hpm hk hst hl (dstB_spec hd) htail hop hopg hopd hpv hΦp hjt hotd hjtm hjtp hΦt hom homg homd homs hjx hoxd hjxm hjxp hjy hoyd hjym hjyp hok hfin fuel listed a w hu (I Φ hl) (fun i _ => hno i)
end
/-! ### the m-th operation waits, through others, for all ahead of it -/
def edgesOf (ops : Array Oper) (i : Nat) : List Nat := match ops[i]? with
  | some o => (o.after.toList.filter fun e => Region.binds .any e).map (·.on)
  | none => []
def clo (ops : Array Oper) : Nat → List Nat → List Nat
  | 0, S => S
  | i + 1, S => if S.any (fun j => Nat.beq j i) then clo ops i (edgesOf ops i ++ S) else clo ops i S
theorem clo_listed {ops : Array Oper} {listed : Array Bool} (hc : ∀ i o, ops[i]? = some o → listed.getD i false = true → ∀ e ∈ o.after, Region.binds .any e = true → listed.getD e.on false = true) :
    ∀ (i : Nat) (S : List Nat), (∀ j ∈ S, listed.getD j false = true) → ∀ j ∈ clo ops i S, listed.getD j false = true := by
  intro i
  induction i with
  | zero => exact fun S h => h
  | succ i ih =>
    intro S h
    unfold clo
    split
    · rename_i hi
      obtain ⟨k, hk, hki⟩ := List.any_eq_true.1 hi
      have hki := Nat.eq_of_beq_eq_true hki
      subst hki
      refine ih _ fun j hj => ?_
      rcases List.mem_append.1 hj with hj | hj
      · unfold edgesOf at hj
        split at hj
        · rename_i o ho
          obtain ⟨e, he, rfl⟩ := List.mem_map.1 hj
          obtain ⟨he, hb⟩ := List.mem_filter.1 he
          exact hc k o ho (h k hk) e (by simpa using he) hb
        · cases hj
      · exact h j hj
    · exact ih S h
def tailT (ops : Array Oper) (m : Nat) : Bool := ((List.range ops.size).all fun i => Nat.ble i m || match ops[i]? with
  | some o => o.after.any fun e => Region.binds .any e && Nat.beq (e.on + 1) i
  | none => true) && (List.range m).all fun j => (clo ops m (edgesOf ops m)).any fun k => Nat.beq k j
theorem tailT_spec {ops : Array Oper} {m : Nat} (h : tailT ops m = true) : (∀ i o, m < i → ops[i]? = some o → ∃ e ∈ o.after, Region.binds .any e = true ∧ e.on + 1 = i) ∧
    (∀ o (listed : Array Bool), ops[m]? = some o → (∀ i o, ops[i]? = some o → listed.getD i false = true → ∀ e ∈ o.after, Region.binds .any e = true → listed.getD e.on false = true) →
      (∀ e ∈ o.after, Region.binds .any e = true → listed.getD e.on false = true) → ∀ j, j < m → listed.getD j false = true) := by
  unfold tailT at h
  rw [Bool.and_eq_true] at h
  constructor
  · intro i o hi ho
    have h1 := (List.all_eq_true.1 h.1) i (List.mem_range.2 (Array.getElem?_eq_some_iff.1 ho).1)
    have h2 : Nat.ble i m = false := by
      cases hb : Nat.ble i m with
      | false => rfl
      | true => have := Nat.le_of_ble_eq_true hb; omega
    simp only [ho, h2, Bool.false_or, Array.any_eq_true'] at h1
    obtain ⟨e, he, h4⟩ := h1
    simp only [Bool.and_eq_true] at h4
    exact ⟨e, he, h4.1, Nat.eq_of_beq_eq_true h4.2⟩
  · intro o listed ho hc he j hj
    have h3 := (List.all_eq_true.1 h.2) j (List.mem_range.2 hj)
    obtain ⟨k, hk, hkj⟩ := List.any_eq_true.1 h3
    have hkj := Nat.eq_of_beq_eq_true hkj
    subst hkj
    refine clo_listed hc m _ (fun i hi => ?_) k hk
    unfold edgesOf at hi
    rw [ho] at hi
    simp only at hi
    obtain ⟨e, hem, rfl⟩ := List.mem_map.1 hi
    obtain ⟨hem, hb⟩ := List.mem_filter.1 hem
    exact he e (by simpa using hem) hb
section
variable {P : Program} {ops : Array Oper} {Q : Exit → Act → World → Prop} {a₀ : Act} {w₀ : World} {Φ : Nat → Ass}
theorem wpAny_growT {m : Nat} (hm : m ≤ ops.size) (hk : growOk ops a₀.tmps.size = true) (hst : ∀ i o, i < m → ops[i]? = some o → StepOK P ops Q a₀ w₀ Φ i o) (hl : ∀ j, Lasts (Φ j))
    (hds : ∀ i o, i < m → ops[i]? = some o → o.dst ≠ none) (htail : tailT ops m = true)
    (hfin : ∀ w, Gr w₀ w → GFin Φ (fun a w => wpList P ops Q (ops.toList.drop m) a w) (ops.toList.take m) 0 a₀ w) :
    ∀ (fuel : Nat) (listed : Array Bool) (a : Act) (w : World), unlisted listed ≤ fuel → GInv ops a₀ w₀ Φ listed a w → (∀ i, m ≤ i → listed.getD i false ≠ true) → wpAny P .any ops Q fuel listed a w := by
  intro fuel
  obtain ⟨ht1, ht2⟩ := tailT_spec htail
  have fin : ∀ (fuel : Nat) (listed : Array Bool) (a : Act) (w : World), unlisted listed ≤ fuel → GInv ops a₀ w₀ Φ listed a w → (∀ i, m ≤ i → listed.getD i false ≠ true) → (∀ i, i < m → listed.getD i false = true) → wpAny P .any ops Q fuel listed a w := fun fuel listed a w hu I hno hall =>
    tail_any hk ht1 fuel m listed a w (Nat.le_refl _) hm I.lsize (fun i hi => by
        rcases Nat.lt_or_ge i m with h | h
        · exact ⟨fun _ => h, fun _ => hall i h⟩
        · exact ⟨fun h' => absurd h' (hno i h), fun h' => absurd h' (by omega)⟩) hu
      (gfin_use hm hk (R := fun a w => wpList P ops Q (ops.toList.drop m) a w) I hall hno hds (ops.toList.take m) 0 a₀ rfl I.defers.symm I.size.symm (by rintro t ⟨j, o, hj, _⟩; omega) (fun _ _ => rfl) (hfin w I.gr))
  induction fuel with
  | zero =>
    intro listed a w hu I hno
    refine fin 0 listed a w hu I hno fun i hi => ?_
    cases h : listed.getD i false with
    | true => rfl
    | false =>
      have := unlisted_set (listed := listed) (i := i) (by rw [getD_same (by rw [I.lsize]; omega)]; exact h)
      omega
  | succ fuel ih =>
    intro listed a w hu I hno
    by_cases hall : ∀ i, i < m → listed.getD i false = true
    · exact fin _ listed a w hu I hno hall
    · refine ⟨fun hr => absurd (fun i hi => all_listed hk I.lsize hr i (by omega)) hall, fun i hi => ?_⟩
      obtain ⟨hun, o, ho, hedge⟩ := mem_ready.1 hi
      have him : i < m := by
        rcases Nat.lt_or_ge i m with h | h
        · exact h
        · exfalso
          rcases Nat.lt_or_ge m i with h2 | h2
          · obtain ⟨e, he, hb, hej⟩ := ht1 i o h2 ho
            exact hno e.on (by omega) (hedge e he hb)
          · have him' : i = m := by omega
            subst him'
            exact hall (ht2 o listed ho I.closed hedge)
      have hcnt := unlisted_set hun
      exact (hst i o him ho).2 a w _ I.gr (knownAs_of_inv hk I hi) fun v w' hg hv => ih _ _ _ (by omega) (ginv_step hk I hi ho hl hg hv) (fun j hj => by
        rw [getD_set_ne false (by omega)]; exact hno j hj)
/-- As GW.tail; the m-th operation waits, through others, for all ahead of it. -/
theorem GW.tailT {m : Nat} (hm : m ≤ ops.size) (hd : dstB ops m = true) (ht : tailT ops m = true) (hfin : ∀ w, Gr w₀ w → GFin Φ (fun a w => wpList P ops Q (ops.toList.drop m) a w) (ops.toList.take m) 0 a₀ w) : GW P ops Q a₀ w₀ Φ m :=
  fun hk hl hst fuel listed a w hu I hno => wpAny_growT hm hk (fun i o hi ho => hst i o hi ho) hl (dstB_spec hd) ht hfin fuel listed a w hu (I Φ hl) (fun i _ => hno i)
end
end Go.Proofs.Ytpkbdodclkgjpaa

