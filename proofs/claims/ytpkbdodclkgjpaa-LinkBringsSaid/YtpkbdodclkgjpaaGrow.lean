/- A region that draws its order, each of whose operations reads, draws, or makes new memory, and writes to nothing that was there: what each operation yields is told by an assertion that outlasts new memory; then the region may be walked once, in the order of the text. No condition. -/
import Derived.Test.YtpkbdodclkgjpaaMem
set_option linter.unusedVariables false
set_option linter.unusedSimpArgs false
namespace Go.Proofs.Ytpkbdodclkgjpaa
open Go Go.RowKit

/-- w' is w with draws and with new blocks. -/
def Gr (w w' : World) : Prop := Below w.heap.size w w'
theorem Gr.refl (w : World) : Gr w w := Below.refl _ _
theorem Gr.trans {a b c : World} (h : Gr a b) (k : Gr b c) : Gr a c := Below.trans h (Below.mono k h.size)
theorem Gr.drew {a b : World} (h : Gr a b) : Gr a b.drew := Below.drew h
theorem Gr.alloc {a b : World} (h : Gr a b) (o : Obj) : Gr a (b.alloc o) := Below.alloc h h.size o
theorem Gr.to {a b c : World} (h : Gr a b) (k : Below b.heap.size b c) : Gr a c := h.trans k

abbrev Ass := Value → World → Prop
/-- The value is c. -/
def eqv (c : Value) : Ass := fun v _ => v = c
/-- The assertion outlasts new memory. -/
def Lasts (φ : Ass) : Prop := ∀ v w w', Gr w w' → φ v w → φ v w'
theorem eqv_lasts (c : Value) : Lasts (eqv c) := fun _ _ _ _ h => h

def slotOf (a : Act) (t : Tmp) : Value := a.tmps.getD t undef

/-- Every operation that yields something has a slot of its own, within the frame; every edge points back. -/
def growOk (ops : Array Oper) (n : Nat) : Bool :=
  (List.range ops.size).all fun i => match ops[i]? with
    | some o => (match o.dst with
        | some d => Nat.ble (d + 1) n && (List.range i).all (fun j => (ops[j]?).bind (·.dst) != some d)
        | none => true) && o.after.all (fun e => !Region.binds .any e || Nat.ble (e.on + 1) i)
    | none => true

/-- Where slot t, at the time of operation i, has its value from: 'some j': operation j; 'none': from before the region. -/
def knownAt (ops : Array Oper) (i : Nat) (t : Tmp) : Option (Option Nat) :=
  match (List.range ops.size).find? (fun j => (ops[j]?).bind (·.dst) == some t) with
  | none => some none
  | some j =>
    if ((ops[i]?).map fun o => o.after.any fun e => e.on == j && Region.binds .any e).getD false then some (some j)
    else if ((ops[j]?).map fun o => o.after.any fun e => e.on == i && Region.binds .any e).getD false then some none
    else none

def KnownAs (Φ : Nat → Ass) (a₀ a : Act) (w : World) (t : Tmp) : Option Nat → Prop
  | some j => Φ j (slotOf a t) w
  | none => slotOf a t = slotOf a₀ t

/-- What is asked of operation i: in whatever grown world, its slots as they are known: it yields a value of which Φ i holds, and the world has only grown. -/
def StepOK (P : Program) (ops : Array Oper) (Q : Exit → Act → World → Prop) (a₀ : Act) (w₀ : World) (Φ : Nat → Ass) (i : Nat) (o : Oper) : Prop :=
  Lasts (Φ i) ∧ ∀ (a : Act) (w : World) (K : Act → World → Prop), Gr w₀ w → (∀ t r, knownAt ops i t = some r → KnownAs Φ a₀ a w t r) →
    (∀ v w', Gr w w' → Φ i v w' → K (a.put o.dst v) w') → wpOp P ops Q i K a w

structure GInv (ops : Array Oper) (a₀ : Act) (w₀ : World) (Φ : Nat → Ass) (listed : Array Bool) (a : Act) (w : World) : Prop where
  gr : Gr w₀ w
  defers : a.defers = a₀.defers
  size : a.tmps.size = a₀.tmps.size
  done : ∀ i o d, ops[i]? = some o → listed.getD i false = true → o.dst = some d → Φ i (slotOf a d) w
  rest : ∀ t, (∀ i o, ops[i]? = some o → listed.getD i false = true → o.dst ≠ some t) → slotOf a t = slotOf a₀ t
  closed : ∀ i o, ops[i]? = some o → listed.getD i false = true → ∀ e ∈ o.after, Region.binds .any e = true → listed.getD e.on false = true
  lsize : listed.size = ops.size

section
variable {P : Program} {ops : Array Oper} {Q : Exit → Act → World → Prop} {a₀ : Act} {w₀ : World} {Φ : Nat → Ass}

theorem growOk_spec {n : Nat} (h : growOk ops n = true) {i : Nat} {o : Oper} (ho : ops[i]? = some o) :
    (∀ d, o.dst = some d → d < n ∧ (∀ j oj, j < i → ops[j]? = some oj → oj.dst ≠ some d)) ∧ ∀ e ∈ o.after, Region.binds .any e = true → e.on < i := by
  have hi : i < ops.size := (Array.getElem?_eq_some_iff.1 ho).1
  have h1 := (List.all_eq_true.1 h) i (List.mem_range.2 hi)
  simp only [ho, Bool.and_eq_true] at h1
  obtain ⟨h1, h2⟩ := h1
  refine ⟨fun d hd => ?_, fun e he hb => ?_⟩
  · simp only [hd, Bool.and_eq_true] at h1
    refine ⟨Nat.le_of_ble_eq_true h1.1, fun j oj hj hoj he => ?_⟩
    have h3 := (List.all_eq_true.1 h1.2) j (List.mem_range.2 hj)
    simp [hoj, he] at h3
  · have h3 := (Array.all_eq_true_iff_forall_mem.1 h2) e he
    rw [hb] at h3
    have := Nat.le_of_ble_eq_true (by simpa using h3)
    omega

theorem dst_unique {n : Nat} (h : growOk ops n = true) {i j : Nat} {oi oj : Oper} {d : Tmp} (hi : ops[i]? = some oi) (hj : ops[j]? = some oj) (di : oi.dst = some d) (dj : oj.dst = some d) : i = j := by
  rcases Nat.lt_trichotomy i j with hlt | he | hlt
  · exact absurd di (((growOk_spec h hj).1 d dj).2 i oi hlt hi)
  · exact he
  · exact absurd dj (((growOk_spec h hi).1 d di).2 j oj hlt hj)

theorem knownAs_of_inv {n : Nat} (hk : growOk ops n = true) {listed : Array Bool} {a : Act} {w : World} (I : GInv ops a₀ w₀ Φ listed a w) {i : Nat} (hr : i ∈ Region.ready .any ops listed) :
    ∀ t r, knownAt ops i t = some r → KnownAs Φ a₀ a w t r := by
  intro t r h
  obtain ⟨hun, o, ho, hall⟩ := mem_ready.1 hr
  have hil : i < ops.size := (Array.getElem?_eq_some_iff.1 ho).1
  have hun' : listed.getD i false ≠ true := by
    have : i < listed.size := by rw [I.lsize]; exact hil
    simp [this] at hun ⊢
    exact hun
  unfold knownAt at h
  cases hf : (List.range ops.size).find? (fun j => (ops[j]?).bind (·.dst) == some t) with
  | none =>
    simp only [hf] at h
    cases h
    refine I.rest t fun j oj hj _ hd => ?_
    have := List.find?_eq_none.1 hf j (List.mem_range.2 (Array.getElem?_eq_some_iff.1 hj).1)
    simp [hj, hd] at this
  | some j =>
    simp only [hf] at h
    have hjp := List.find?_some hf
    obtain ⟨oj, hoj, hdj⟩ : ∃ oj, ops[j]? = some oj ∧ oj.dst = some t := by
      have : (ops[j]?).bind (·.dst) = some t := by simpa using hjp
      cases h' : ops[j]? with
      | none => simp [h'] at this
      | some oj => exact ⟨oj, rfl, by simpa [h'] using this⟩
    split at h
    · rename_i he
      cases h
      simp only [ho, Option.map_some, Option.getD_some, Array.any_eq_true'] at he
      obtain ⟨e, hem, he⟩ := he
      simp only [Bool.and_eq_true, beq_iff_eq] at he
      have := hall e hem he.2
      rw [he.1] at this
      exact I.done j oj t hoj this hdj
    · split at h
      · rename_i _ he
        cases h
        simp only [hoj, Option.map_some, Option.getD_some, Array.any_eq_true'] at he
        obtain ⟨e, hem, he⟩ := he
        simp only [Bool.and_eq_true, beq_iff_eq] at he
        refine I.rest t fun k ok hok hlk hdk => ?_
        have hkj : k = j := dst_unique hk hok hoj hdk hdj
        subst hkj
        have := I.closed k oj hoj hlk e hem he.2
        rw [he.1] at this
        exact hun' this
      · cases h

theorem slotOf_put_same {a : Act} {d : Tmp} (h : d < a.tmps.size) (v : Value) : slotOf (a.put (some d) v) d = v := by
  simp [slotOf, Act.put, h]
theorem slotOf_put_ne {a : Act} {d t : Tmp} (h : d ≠ t) (v : Value) : slotOf (a.put (some d) v) t = slotOf a t := by
  simp [slotOf, Act.put, Array.getElem?_setIfInBounds_ne h]

theorem ginv_step (hk : growOk ops a₀.tmps.size = true) {listed : Array Bool} {a : Act} {w : World} (I : GInv ops a₀ w₀ Φ listed a w) {i : Nat} {o : Oper} (hr : i ∈ Region.ready .any ops listed) (ho : ops[i]? = some o)
    (hl : ∀ j, Lasts (Φ j)) {v : Value} {w' : World} (hg : Gr w w') (hv : Φ i v w') : GInv ops a₀ w₀ Φ (listed.setIfInBounds i true) (a.put o.dst v) w' := by
  obtain ⟨hun, o', ho', hall⟩ := mem_ready.1 hr
  obtain rfl : o' = o := by rw [ho] at ho'; exact (Option.some.inj ho').symm
  have hil : i < ops.size := (Array.getElem?_eq_some_iff.1 ho).1
  have hil' : i < listed.size := by rw [I.lsize]; exact hil
  have hun' : listed.getD i false ≠ true := by simp [hil'] at hun ⊢; exact hun
  have hset : ∀ j, (listed.setIfInBounds i true).getD j false = true → j = i ∨ listed.getD j false = true := by
    intro j hj
    by_cases h : i = j
    · exact .inl h.symm
    · rw [getD_set_ne false h] at hj; exact .inr hj
  have hclosed : ∀ j oj, ops[j]? = some oj → (listed.setIfInBounds i true).getD j false = true → ∀ e ∈ oj.after, Region.binds .any e = true → (listed.setIfInBounds i true).getD e.on false = true := by
    intro j oj hj hlj e he hb
    rcases hset j hlj with rfl | hlj'
    · obtain rfl : oj = o' := by rw [ho] at hj; exact (Option.some.inj hj).symm
      exact getD_set_true (hall e he hb)
    · exact getD_set_true (I.closed j oj hj hlj' e he hb)
  cases hd : o'.dst with
  | none =>
    refine ⟨I.gr.trans hg, by simpa [Act.put] using I.defers, by simpa [Act.put] using I.size, fun j oj dj hj hlj hdj => ?_, fun t ht => ?_, hclosed, by simpa using I.lsize⟩
    · rcases hset j hlj with rfl | hlj'
      · obtain rfl : oj = o' := by rw [ho] at hj; exact (Option.some.inj hj).symm
        rw [hd] at hdj; cases hdj
      · exact hl j _ _ _ hg (I.done j oj dj hj hlj' hdj)
    · exact I.rest t fun j oj hj hlj => ht j oj hj (getD_set_true hlj)
  | some d =>
    obtain ⟨hdn, _⟩ := (growOk_spec hk ho).1 d hd
    have hds : d < a.tmps.size := by rw [I.size]; exact hdn
    refine ⟨I.gr.trans hg, by simpa [Act.put] using I.defers, by simpa [Act.put] using I.size, fun j oj dj hj hlj hdj => ?_, fun t ht => ?_, hclosed, by simpa using I.lsize⟩
    · rcases hset j hlj with rfl | hlj'
      · obtain rfl : oj = o' := by rw [ho] at hj; exact (Option.some.inj hj).symm
        rw [hd] at hdj; cases hdj
        rw [slotOf_put_same hds]
        exact hv
      · have hne : d ≠ dj := fun e => by
          subst e
          have := dst_unique hk hj ho hdj hd
          subst this
          exact hun' hlj'
        rw [slotOf_put_ne hne]
        exact hl j _ _ _ hg (I.done j oj dj hj hlj' hdj)
    · have hne : d ≠ t := fun e => by
        subst e
        exact ht i o' ho (by simp [hil']) hd
      rw [slotOf_put_ne hne]
      refine I.rest t fun j oj hj hlj => ht j oj hj (getD_set_true hlj)

def unlisted (listed : Array Bool) : Nat := listed.toList.count false
theorem count_set_true : ∀ (l : List Bool) (i : Nat), l[i]? = some false → (l.set i true).count false + 1 = l.count false
  | [], _, h => by simp at h
  | b :: l, 0, h => by
    simp at h
    subst h
    simp
  | b :: l, i + 1, h => by
    have := count_set_true l i (by simpa using h)
    simp only [List.set_cons_succ, List.count_cons]
    omega
theorem unlisted_set {listed : Array Bool} {i : Nat} (h : listed.getD i true = false) : unlisted (listed.setIfInBounds i true) + 1 = unlisted listed := by
  unfold unlisted
  rw [Array.toList_setIfInBounds]
  apply count_set_true
  rcases Nat.lt_or_ge i listed.size with h' | h'
  · simp [h'] at h ⊢
    exact h
  · simp [Array.getElem?_eq_none h'] at h
theorem all_listed {n : Nat} (hk : growOk ops n = true) {listed : Array Bool} (hs : listed.size = ops.size) (hr : Region.ready .any ops listed = []) : ∀ i, i < ops.size → listed.getD i false = true := by
  intro i
  induction i using Nat.strongRecOn with
  | _ i ih =>
    intro hi
    cases hl : listed.getD i false with
    | true => rfl
    | false =>
      exfalso
      have : i ∈ Region.ready .any ops listed := by
        rw [mem_ready]
        have hi' : i < listed.size := by omega
        refine ⟨by simp [hi'] at hl ⊢; exact hl, ops[i], Array.getElem?_eq_getElem hi, fun e he hb => ?_⟩
        have := (growOk_spec hk (Array.getElem?_eq_getElem hi)).2 e he hb
        exact ih e.on this (by omega)
      rw [hr] at this
      cases this

/-- The frame at the end, written out operation by operation. -/
def GFin (Φ : Nat → Ass) (R : Act → World → Prop) : List Oper → Nat → Act → World → Prop
  | [], _, a, w => R a w
  | o :: rest, i, a, w => ∀ v, Φ i v w → GFin Φ R rest (i + 1) (a.put o.dst v) w

theorem gfin_use {m : Nat} (hm : m ≤ ops.size) (hk : growOk ops a₀.tmps.size = true) {R : Act → World → Prop} {a : Act} {w : World} {listed : Array Bool} (I : GInv ops a₀ w₀ Φ listed a w) (hall : ∀ i, i < m → listed.getD i false = true)
    (hno : ∀ i, m ≤ i → listed.getD i false ≠ true) (hds : ∀ i o, i < m → ops[i]? = some o → o.dst ≠ none) :
    ∀ (l : List Oper) (k : Nat) (b : Act), (ops.toList.take m).drop k = l → b.defers = a.defers → b.tmps.size = a.tmps.size →
      (∀ t, (∃ (j : Nat) (o : Oper), j < k ∧ j < m ∧ ops[j]? = some o ∧ o.dst = some t) → slotOf b t = slotOf a t) → (∀ t, (∀ (j : Nat) (o : Oper), j < k → j < m → ops[j]? = some o → o.dst ≠ some t) → slotOf b t = slotOf a₀ t) →
      GFin Φ R l k b w → R a w := by
  intro l
  induction l with
  | nil =>
    intro k b hdrop hdef hsz h1 h2 hR
    have hlen : m ≤ k := by
      have := congrArg List.length hdrop
      simp at this
      omega
    have : b = a := by
      obtain ⟨bt, bd⟩ := b
      obtain ⟨at_, ad⟩ := a
      simp only at hdef hsz
      subst hdef
      congr
      apply Array.ext hsz
      intro t ht1 ht2
      have hs : slotOf ⟨bt, bd⟩ t = slotOf ⟨at_, bd⟩ t := by
        by_cases hw : ∃ (j : Nat) (o : Oper), j < m ∧ ops[j]? = some o ∧ o.dst = some t
        · obtain ⟨j, o, hjm, hj, hd⟩ := hw
          exact h1 t ⟨j, o, Nat.lt_of_lt_of_le hjm hlen, hjm, hj, hd⟩
        · rw [h2 t (fun j o _ hjm hj hd => hw ⟨j, o, hjm, hj, hd⟩)]
          exact (I.rest t (fun j o hj hlj hd => hw ⟨j, o, by
            rcases Nat.lt_or_ge j m with h | h
            · exact h
            · exact absurd hlj (hno j h), hj, hd⟩)).symm
      simpa [slotOf, ht1, ht2] using hs
    subst this
    exact hR
  | cons o rest ih =>
    intro k b hdrop hdef hsz h1 h2 hF
    have hko' : (ops.toList.take m)[k]? = some o := by
      have := congrArg (·[0]?) hdrop
      simpa using this
    have hkm : k < m := by
      have := (List.getElem?_eq_some_iff.1 hko').1
      simp at this
      omega
    have hko : ops[k]? = some o := by
      rw [List.getElem?_take, if_pos hkm] at hko'
      simpa using hko'
    have hkl : k < ops.size := (Array.getElem?_eq_some_iff.1 hko).1
    have hdrop' : (ops.toList.take m).drop (k + 1) = rest := by
      have := congrArg List.tail hdrop
      simpa using this
    cases hd : o.dst with
    | none => exact absurd hd (hds k o hkm hko)
    | some d =>
      obtain ⟨hdn, _⟩ := (growOk_spec hk hko).1 d hd
      have hdb : d < b.tmps.size := by rw [hsz, I.size]; exact hdn
      refine ih (k + 1) (b.put o.dst (slotOf a d)) hdrop' ?_ ?_ ?_ ?_ (hF _ (I.done k o d hko (hall k hkm) hd))
      · rw [hd]; simpa [Act.put] using hdef
      · rw [hd]; simpa [Act.put] using hsz
      · rintro t ⟨j, oj, hj, hjm, hoj, hdj⟩
        rw [hd]
        by_cases ht : d = t
        · subst ht; rw [slotOf_put_same hdb]
        · rw [slotOf_put_ne ht]
          refine h1 t ⟨j, oj, ?_, hjm, hoj, hdj⟩
          rcases Nat.lt_or_ge j k with h | h
          · exact h
          · exfalso
            have : j = k := by omega
            subst this
            rw [hko] at hoj
            cases hoj
            rw [hd] at hdj
            cases hdj
            exact ht rfl
      · intro t ht
        have hne : d ≠ t := fun e => ht k o (by omega) hkm hko (by rw [hd, e])
        rw [hd, slotOf_put_ne hne]
        exact h2 t fun j oj hj hjm hoj => ht j oj (by omega) hjm hoj

theorem getD_same {l : Array Bool} {i : Nat} (h : i < l.size) : l.getD i true = l.getD i false := by simp [h]
/-- The tail: its operations follow one upon the other. -/
theorem tail_any (hk : growOk ops a₀.tmps.size = true) {m : Nat} (htail : ∀ i o, m < i → ops[i]? = some o → ∃ e ∈ o.after, Region.binds .any e = true ∧ e.on + 1 = i) :
    ∀ (fuel k : Nat) (listed : Array Bool) (a : Act) (w : World), m ≤ k → k ≤ ops.size → listed.size = ops.size → (∀ i, i < ops.size → (listed.getD i false = true ↔ i < k)) → unlisted listed ≤ fuel →
      wpList P ops Q (ops.toList.drop k) a w → wpAny P .any ops Q fuel listed a w := by
  intro fuel
  have only : ∀ (k : Nat) (listed : Array Bool), m ≤ k → listed.size = ops.size → (∀ i, i < ops.size → (listed.getD i false = true ↔ i < k)) → ∀ i ∈ Region.ready .any ops listed, i = k := by
    intro k listed hmk hsz hl i hi
    obtain ⟨hun, o, ho, hall⟩ := mem_ready.1 hi
    have his : i < ops.size := (Array.getElem?_eq_some_iff.1 ho).1
    rw [getD_same (by omega)] at hun
    have h1 : ¬ i < k := fun h => by rw [(hl i his).2 h] at hun; cases hun
    rcases Nat.lt_or_ge k i with h2 | h2
    · obtain ⟨e, he, hb, hej⟩ := htail i o (by omega) ho
      have := hall e he hb
      have := (hl e.on (by omega)).1 this
      omega
    · omega
  have isr : ∀ (k : Nat) (listed : Array Bool), k < ops.size → listed.size = ops.size → (∀ i, i < ops.size → (listed.getD i false = true ↔ i < k)) → k ∈ Region.ready .any ops listed := by
    intro k listed hks hsz hl
    rw [mem_ready]
    refine ⟨?_, ops[k], Array.getElem?_eq_getElem hks, fun e he hb => ?_⟩
    · rw [getD_same (by omega)]
      cases h : listed.getD k false with
      | false => rfl
      | true => exact absurd ((hl k hks).1 h) (by omega)
    · have := (growOk_spec hk (Array.getElem?_eq_getElem hks)).2 e he hb
      exact (hl e.on (by omega)).2 this
  induction fuel with
  | zero =>
    intro k listed a w hmk hks hsz hl hu hw
    rcases Nat.lt_or_ge k ops.size with h | h
    · have := unlisted_set (mem_ready.1 (isr k listed h hsz hl)).1
      omega
    · have hd : ops.toList.drop k = [] := List.drop_eq_nil_of_le (by simpa using h)
      rw [hd] at hw
      refine ⟨?_, hw⟩
      cases hr : Region.ready .any ops listed with
      | nil => rfl
      | cons i l =>
        have hi : i ∈ Region.ready .any ops listed := by rw [hr]; exact List.mem_cons_self
        have e := only k listed hmk hsz hl i hi
        obtain ⟨_, o, ho, _⟩ := mem_ready.1 hi
        have := (Array.getElem?_eq_some_iff.1 ho).1
        omega
  | succ fuel ih =>
    intro k listed a w hmk hks hsz hl hu hw
    refine ⟨fun hr => ?_, fun i hi => ?_⟩
    · rcases Nat.lt_or_ge k ops.size with h | h
      · have := isr k listed h hsz hl
        rw [hr] at this
        cases this
      · have hd : ops.toList.drop k = [] := List.drop_eq_nil_of_le (by simpa using h)
        rw [hd] at hw
        exact hw
    · obtain rfl := only k listed hmk hsz hl i hi
      obtain ⟨hun, o, ho, _⟩ := mem_ready.1 hi
      have his : i < ops.size := (Array.getElem?_eq_some_iff.1 ho).1
      have hcnt := unlisted_set hun
      have hgo : ops[i] = o := (Array.getElem?_eq_some_iff.1 ho).2
      have hd : ops.toList.drop i = o :: ops.toList.drop (i + 1) := by
        rw [List.drop_eq_getElem_cons (by simpa using his)]
        simp [hgo]
      rw [hd] at hw
      have hnext : ∀ a w, wpList P ops Q (ops.toList.drop (i + 1)) a w → wpAny P .any ops Q fuel (listed.setIfInBounds i true) a w := fun a w h =>
        ih (i + 1) _ a w (by omega) (by omega) (by simpa using hsz) (fun j hj => by
          by_cases e : i = j
          · subst e
            have : i < listed.size := by omega
            simp [this]
          · rw [getD_set_ne false e, hl j hj]
            omega) (by omega) h
      unfold wpList at hw
      unfold wpOp
      simp only [ho]
      split at hw
      · rename_i hwant
        rw [if_pos hwant]
        rcases hw with h | h
        · exact .inl (Oper.wp_mono hnext h)
        · exact .inr h
      · rename_i hwant
        rw [if_neg hwant]
        exact hnext _ _ hw

theorem wpAny_grow {m : Nat} (hm : m ≤ ops.size) (hk : growOk ops a₀.tmps.size = true) (hst : ∀ i o, i < m → ops[i]? = some o → StepOK P ops Q a₀ w₀ Φ i o) (hl : ∀ j, Lasts (Φ j))
    (hds : ∀ i o, i < m → ops[i]? = some o → o.dst ≠ none) (htail : ∀ i o, m < i → ops[i]? = some o → ∃ e ∈ o.after, Region.binds .any e = true ∧ e.on + 1 = i)
    (hfirst : ∀ o, ops[m]? = some o → ∀ j, j < m → ∃ e ∈ o.after, Region.binds .any e = true ∧ e.on = j)
    (hfin : ∀ w, Gr w₀ w → GFin Φ (fun a w => wpList P ops Q (ops.toList.drop m) a w) (ops.toList.take m) 0 a₀ w) :
    ∀ (fuel : Nat) (listed : Array Bool) (a : Act) (w : World), unlisted listed ≤ fuel → GInv ops a₀ w₀ Φ listed a w → (∀ i, m ≤ i → listed.getD i false ≠ true) → wpAny P .any ops Q fuel listed a w := by
  intro fuel
  have fin : ∀ (fuel : Nat) (listed : Array Bool) (a : Act) (w : World), unlisted listed ≤ fuel → GInv ops a₀ w₀ Φ listed a w → (∀ i, m ≤ i → listed.getD i false ≠ true) → (∀ i, i < m → listed.getD i false = true) → wpAny P .any ops Q fuel listed a w := fun fuel listed a w hu I hno hall =>
    tail_any hk htail fuel m listed a w (Nat.le_refl _) hm I.lsize (fun i hi => by
        rcases Nat.lt_or_ge i m with h | h
        · exact ⟨fun _ => h, fun _ => hall i h⟩
        · exact ⟨fun h' => absurd h' (hno i h), fun h' => absurd h' (by omega)⟩) hu
      (gfin_use hm hk (R := fun a w => wpList P ops Q (ops.toList.drop m) a w) I hall hno hds (ops.toList.take m) 0 a₀ rfl I.defers.symm I.size.symm (by rintro t ⟨j, o, hj, _⟩; omega) (fun _ _ => rfl) (hfin w I.gr))
  induction fuel with
  | zero =>
    intro listed a w hu I hno
    refine fin 0 listed a w hu I hno fun i hi => ?_
    cases h : listed.getD i false with
    | true => rfl
    | false =>
      have := unlisted_set (listed := listed) (i := i) (by rw [getD_same (by rw [I.lsize]; omega)]; exact h)
      omega
  | succ fuel ih =>
    intro listed a w hu I hno
    by_cases hall : ∀ i, i < m → listed.getD i false = true
    · exact fin _ listed a w hu I hno hall
    · refine ⟨fun hr => absurd (fun i hi => all_listed hk I.lsize hr i (by omega)) hall, fun i hi => ?_⟩
      obtain ⟨hun, o, ho, hedge⟩ := mem_ready.1 hi
      have him : i < m := by
        rcases Nat.lt_or_ge i m with h | h
        · exact h
        · exfalso
          rcases Nat.lt_or_ge m i with h2 | h2
          · obtain ⟨e, he, hb, hej⟩ := htail i o h2 ho
            exact hno e.on (by omega) (hedge e he hb)
          · have him' : i = m := by omega
            subst him'
            apply hall
            intro j hj
            obtain ⟨e, he, hb, hej⟩ := hfirst o ho j hj
            have := hedge e he hb
            rwa [hej] at this
      have hcnt := unlisted_set hun
      exact (hst i o him ho).2 a w _ I.gr (knownAs_of_inv hk I hi) fun v w' hg hv => ih _ _ _ (by omega) (ginv_step hk I hi ho hl hg hv) (fun j hj => by
        rw [getD_set_ne false (by omega)]; exact hno j hj)

/-! ### the walk, operation by operation -/
/-- The assertions so far; what is said of operation i is laid upon them. -/
def setA (Φ : Nat → Ass) (i : Nat) (φ : Ass) : Nat → Ass := fun j => bif Nat.beq j i then φ else Φ j
def noneA : Nat → Ass := fun _ _ _ => True
theorem setA_same (Φ : Nat → Ass) (i : Nat) (φ : Ass) : setA Φ i φ i = φ := by simp [setA]
theorem setA_ne (Φ : Nat → Ass) {i j : Nat} (φ : Ass) (h : j ≠ i) : setA Φ i φ j = Φ j := by
  have : Nat.beq j i = false := by
    cases hb : Nat.beq j i with
    | false => rfl
    | true => exact absurd (Nat.eq_of_beq_eq_true hb) h
  simp [setA, this]

/-- The first i operations are right by Φ; what is left to be shown. -/
def GW (P : Program) (ops : Array Oper) (Q : Exit → Act → World → Prop) (a₀ : Act) (w₀ : World) (Φ : Nat → Ass) (i : Nat) : Prop :=
  growOk ops a₀.tmps.size = true → (∀ j, Lasts (Φ j)) → (∀ j o, j < i → ops[j]? = some o → StepOK P ops Q a₀ w₀ Φ j o) →
    ∀ (fuel : Nat) (listed : Array Bool) (a : Act) (w : World), unlisted listed ≤ fuel → (∀ Ψ, (∀ j, Lasts (Ψ j)) → GInv ops a₀ w₀ Ψ listed a w) → (∀ i, listed.getD i false ≠ true) → wpAny P .any ops Q fuel listed a w

theorem knownAt_lt {n : Nat} (hk : growOk ops n = true) {i j : Nat} {t : Tmp} (hi : i < ops.size) (h : knownAt ops i t = some (some j)) : j < i := by
  unfold knownAt at h
  cases hf : (List.range ops.size).find? (fun j => (ops[j]?).bind (·.dst) == some t) with
  | none => simp [hf] at h
  | some j' =>
    simp only [hf] at h
    split at h
    · rename_i he
      cases h
      have ho := Array.getElem?_eq_getElem hi
      simp only [ho, Option.map_some, Option.getD_some, Array.any_eq_true'] at he
      obtain ⟨e, hem, he⟩ := he
      simp only [Bool.and_eq_true, beq_iff_eq] at he
      have := (growOk_spec hk ho).2 e hem he.2
      omega
    · split at h <;> cases h

/-- The first m operations yield something. -/
def dstB (ops : Array Oper) (m : Nat) : Bool := (List.range m).all fun i => match ops[i]? with
  | some o => o.dst.isSome
  | none => true
/-- The m-th operation waits for all ahead of it, each one behind it for the one ahead of it. -/
def tailB (ops : Array Oper) (m : Nat) : Bool := ((List.range ops.size).all fun i => Nat.ble i m || match ops[i]? with
  | some o => o.after.any fun e => Region.binds .any e && Nat.beq (e.on + 1) i
  | none => true) && match ops[m]? with
  | some o => (List.range m).all fun j => o.after.any fun e => Region.binds .any e && Nat.beq e.on j
  | none => true
theorem dstB_spec {m : Nat} (h : dstB ops m = true) : ∀ i o, i < m → ops[i]? = some o → o.dst ≠ none := by
  intro i o hi ho hd
  have := (List.all_eq_true.1 h) i (List.mem_range.2 hi)
  simp [ho, hd] at this
theorem tailB_spec {m : Nat} (h : tailB ops m = true) : (∀ i o, m < i → ops[i]? = some o → ∃ e ∈ o.after, Region.binds .any e = true ∧ e.on + 1 = i) ∧
    (∀ o, ops[m]? = some o → ∀ j, j < m → ∃ e ∈ o.after, Region.binds .any e = true ∧ e.on = j) := by
  unfold tailB at h
  rw [Bool.and_eq_true] at h
  constructor
  · intro i o hi ho
    have h1 := (List.all_eq_true.1 h.1) i (List.mem_range.2 (Array.getElem?_eq_some_iff.1 ho).1)
    have h2 : Nat.ble i m = false := by
      cases hb : Nat.ble i m with
      | false => rfl
      | true => have := Nat.le_of_ble_eq_true hb; omega
    simp only [ho, h2, Bool.false_or, Array.any_eq_true'] at h1
    obtain ⟨e, he, h4⟩ := h1
    simp only [Bool.and_eq_true] at h4
    exact ⟨e, he, h4.1, Nat.eq_of_beq_eq_true h4.2⟩
  · intro o ho j hj
    have h1 := h.2
    simp only [ho] at h1
    have h3 := (List.all_eq_true.1 h1) j (List.mem_range.2 hj)
    simp only [Array.any_eq_true'] at h3
    obtain ⟨e, he, h4⟩ := h3
    simp only [Bool.and_eq_true] at h4
    exact ⟨e, he, h4.1, Nat.eq_of_beq_eq_true h4.2⟩
/-- The operations from the m-th on follow one upon the other: they are walked as ever. -/
theorem GW.tail {m : Nat} (hm : m ≤ ops.size) (hd : dstB ops m = true) (ht : tailB ops m = true) (hfin : ∀ w, Gr w₀ w → GFin Φ (fun a w => wpList P ops Q (ops.toList.drop m) a w) (ops.toList.take m) 0 a₀ w) : GW P ops Q a₀ w₀ Φ m :=
  fun hk hl hst fuel listed a w hu I hno => wpAny_grow hm hk (fun i o hi ho => hst i o hi ho) hl (dstB_spec hd) (tailB_spec ht).1 (tailB_spec ht).2 hfin fuel listed a w hu (I Φ hl) (fun i _ => hno i)
theorem GW.done {n : Nat} (hn : ops.size ≤ n) (hd : dstB ops ops.size = true) (hfin : ∀ w, Gr w₀ w → GFin Φ (fun a w => Q .normal a w) ops.toList 0 a₀ w) : GW P ops Q a₀ w₀ Φ n :=
  fun hk hl hst fuel listed a w hu I hno => wpAny_grow (Nat.le_refl ops.size) hk (fun i o hi ho => hst i o (by omega) ho) hl (dstB_spec hd) (fun i o hi ho => by
    have := (Array.getElem?_eq_some_iff.1 ho).1
    omega) (fun o ho => by
    have := (Array.getElem?_eq_some_iff.1 ho).1
    omega) (by
    have e1 : ops.toList.drop ops.size = [] := List.drop_eq_nil_of_le (by simp)
    have e2 : ops.toList.take ops.size = ops.toList := List.take_of_length_le (by simp)
    rw [e1, e2]
    exact hfin) fuel listed a w hu (I Φ hl) (fun i _ => hno i)

theorem GW.step {i : Nat} {o : Oper} (φ : Ass) (ho : ops[i]? = some o) (hφ : Lasts φ)
    (h : ∀ (a : Act) (w : World) (K : Act → World → Prop), Gr w₀ w → (∀ t r, knownAt ops i t = some r → KnownAs Φ a₀ a w t r) → (∀ v w', Gr w w' → φ v w' → K (a.put o.dst v) w') → wpOp P ops Q i K a w)
    (hrest : GW P ops Q a₀ w₀ (setA Φ i φ) (i + 1)) : GW P ops Q a₀ w₀ Φ i := by
  intro hk hl hst
  have hi : i < ops.size := (Array.getElem?_eq_some_iff.1 ho).1
  have hl' : ∀ j, Lasts (setA Φ i φ j) := fun j => by
    by_cases hj : j = i
    · subst hj; rw [setA_same]; exact hφ
    · rw [setA_ne Φ φ hj]; exact hl j
  have conv : ∀ (j : Nat), j ≤ i → ∀ (a : Act) (w : World) t r, knownAt ops j t = some r → KnownAs (setA Φ i φ) a₀ a w t r → KnownAs Φ a₀ a w t r := by
    intro j hj a w t r hkn hka
    cases r with
    | none => exact hka
    | some j' =>
      have := knownAt_lt hk (by omega) hkn
      simp only [KnownAs] at hka ⊢
      rwa [setA_ne Φ φ (by omega)] at hka
  refine hrest hk hl' fun j oj hj hoj => ?_
  rcases Nat.lt_or_ge j i with hlt | hge
  · obtain ⟨_, h2⟩ := hst j oj hlt hoj
    refine ⟨hl' j, fun a w K hg hkn hK => h2 a w K hg (fun t r ht => conv j (by omega) a w t r ht (hkn t r ht)) fun v w' hg' hv => hK v w' hg' ?_⟩
    rw [setA_ne Φ φ (by omega)]
    exact hv
  · have : j = i := by omega
    subst this
    obtain rfl : oj = o := by rw [ho] at hoj; exact (Option.some.inj hoj).symm
    refine ⟨hl' j, fun a w K hg hkn hK => h a w K hg (fun t r ht => conv j (by omega) a w t r ht (hkn t r ht)) fun v w' hg' hv => hK v w' hg' ?_⟩
    rw [setA_same]
    exact hv

theorem noneA_lasts : ∀ j, Lasts (noneA j) := fun _ _ _ _ _ _ => trivial

/-- THE REGION: any order. -/
theorem region_grow {id : Nat} (hm : P.follows .mixedOrders = true) (hk : growOk ops a₀.tmps.size = true) (h : GW P ops Q a₀ w₀ noneA 0) : (Code.region id ops true).wp P Q a₀ w₀ :=
  wp_region_any hm (h hk noneA_lasts (fun j o hj => absurd hj (by omega)) ops.size _ a₀ _ (by simp [unlisted]) (fun Ψ _ =>
    ⟨(Gr.refl _).drew, rfl, rfl, fun i o d _ hl => by
        exfalso
        rcases Nat.lt_or_ge i ops.size with h' | h'
        · simp [h'] at hl
        · simp [h'] at hl,
      fun _ _ => rfl, fun i o _ hl => by
        exfalso
        rcases Nat.lt_or_ge i ops.size with h' | h'
        · simp [h'] at hl
        · simp [h'] at hl,
      by simp⟩) (fun i hl => by
        rcases Nat.lt_or_ge i ops.size with h' | h'
        · simp [h'] at hl
        · simp [h'] at hl))
end

/-! ### the steps -/
/-- A contract: the call returns a value of which φ holds; the world has only grown. -/
def Ret (φ : Ass) (w : World) : Ending → World → Prop := fun e w' => ∃ v, e = .returned v ∧ φ v w' ∧ Gr w w'
/-- The operation yields a value of which φ holds (or enters a function that does); the world has only grown. -/
def Res (P : Program) (s : Sem Next) (φ : Ass) (w : World) : Prop :=
  (∃ v w', s.run P w = .ok (.value v) w' ∧ Gr w w' ∧ φ v w') ∨ (∃ f args, s.run P w = .ok (.enter f args) w ∧ Calls P f args w (Ret φ w))
theorem Res.val {P : Program} {s : Sem Next} {φ : Ass} {w w' : World} {v : Value} (h : s.run P w = .ok (.value v) w') (hg : Gr w w') (hv : φ v w') : Res P s φ w := .inl ⟨v, w', h, hg, hv⟩
theorem Res.here {P : Program} {s : Sem Next} {φ : Ass} {w : World} {v : Value} (h : s.run P w = .ok (.value v) w) (hv : φ v w) : Res P s φ w := .inl ⟨v, w, h, Gr.refl w, hv⟩

/-- What is known of an operand at the time of operation i. -/
def Knows (ops : Array Oper) (Φ : Nat → Ass) (a₀ : Act) (w₀ : World) (i : Nat) (x : Operand) (ψ : Ass) : Prop :=
  ∀ (a : Act) (w : World), Gr w₀ w → (∀ t r, knownAt ops i t = some r → KnownAs Φ a₀ a w t r) → ψ (a.eval x) w
/-- The guard says yes. -/
def GuardOK (ops : Array Oper) (Φ : Nat → Ass) (i : Nat) (o : Oper) : Prop :=
  match o.guard with
  | none => True
  | some (j, b) => ∃ d, (ops[j]?).bind (·.dst) = some d ∧ knownAt ops i d = some (some j) ∧ ∀ v w, Φ j v w → v = .bool b

section
variable {P : Program} {ops : Array Oper} {Q : Exit → Act → World → Prop} {a₀ : Act} {w₀ : World} {Φ : Nat → Ass} {i : Nat} {o : Oper}

theorem kn {t : Tmp} {j : Nat} (h : knownAt ops i t = some (some j)) : Knows ops Φ a₀ w₀ i (.tmp t) (Φ j) := fun _ _ _ hk => hk t _ h
theorem kn0 {t : Tmp} {c : Value} (h : knownAt ops i t = some none) (hc : slotOf a₀ t = c) : Knows ops Φ a₀ w₀ i (.tmp t) (eqv c) := fun _ _ _ hk => (hk t _ h).trans hc
theorem kn0' {t : Tmp} {c : Value} {ψ : Ass} (h : knownAt ops i t = some none) (hc : slotOf a₀ t = c) (hψ : Lasts ψ) (h0 : ψ c w₀) : Knows ops Φ a₀ w₀ i (.tmp t) ψ := fun a w hg hk => by
  have : a.eval (.tmp t) = c := (hk t _ h).trans hc
  rw [this]
  exact hψ _ _ _ hg h0
theorem knc {c : Value} : Knows ops Φ a₀ w₀ i (.const c) (eqv c) := fun _ _ _ _ => rfl

theorem wpOp_res (ho : ops[i]? = some o) {a : Act} {w : World} {K : Act → World → Prop} {φ : Ass} (hw : Region.wanted o (yielded ops a.tmps) = true) (h : Res P (execOp a.eval o) φ w)
    (hK : ∀ v w', Gr w w' → φ v w' → K (a.put o.dst v) w') : wpOp P ops Q i K a w := by
  unfold wpOp
  simp only [ho, hw, if_true]
  refine .inl ?_
  unfold Oper.wp
  rcases h with ⟨v, w', hr, hg, hv⟩ | ⟨f, args, hr, hc⟩
  · rw [hr]; exact hK v w' hg hv
  · rw [hr]
    refine hc.mono fun e w' => ?_
    rintro ⟨v, rfl, hv, hg⟩
    exact hK v w' hg hv

theorem GW.op (φ : Ass) (ho : ops[i]? = some o) (hφ : Lasts φ) (hgd : GuardOK ops Φ i o)
    (h : ∀ (a : Act) (w : World), Gr w₀ w → (∀ t r, knownAt ops i t = some r → KnownAs Φ a₀ a w t r) → Res P (execOp a.eval o) φ w)
    (hrest : GW P ops Q a₀ w₀ (setA Φ i φ) (i + 1)) : GW P ops Q a₀ w₀ Φ i :=
  GW.step φ ho hφ (fun a w K hg hkn hK => by
    refine wpOp_res ho ?_ (h a w hg hkn) hK
    unfold GuardOK at hgd
    unfold Region.wanted
    cases hgu : o.guard with
    | none => rfl
    | some g =>
      obtain ⟨j, b⟩ := g
      rw [hgu] at hgd
      obtain ⟨d, hd, hkd, hb⟩ := hgd
      have hv : slotOf a d = .bool b := hb _ _ (hkn d _ hkd)
      have : yielded ops a.tmps j = some b := by
        unfold yielded
        rw [hd]
        unfold slotOf at hv
        rcases Nat.lt_or_ge d a.tmps.size with hlt | hge
        · simp [hlt] at hv
          simp [hlt, hv]
        · simp [hge] at hv
          exact absurd hv (by unfold undef; intro e; cases e)
      simp [this]) hrest

/-- An operation whose guard says no. -/
theorem GW.skip (ho : ops[i]? = some o) {j : Nat} {b : Bool} {d : Tmp} (hgu : o.guard = some (j, b)) (hd : (ops[j]?).bind (·.dst) = some d) (hkd : knownAt ops i d = some (some j))
    (hb : ∀ v w, Φ j v w → v = .bool (!b) ∨ v = undef) (hrest : GW P ops Q a₀ w₀ (setA Φ i (eqv undef)) (i + 1)) : GW P ops Q a₀ w₀ Φ i :=
  GW.step (eqv undef) ho (eqv_lasts _) (fun a w K hg hkn hK => by
    have hw : Region.wanted o (yielded ops a.tmps) = false := by
      have hv := hb _ _ (hkn d _ hkd)
      have hy : yielded ops a.tmps j ≠ some b := by
        unfold yielded
        rw [hd]
        unfold slotOf at hv
        rcases Nat.lt_or_ge d a.tmps.size with hlt | hge
        · simp [hlt] at hv
          rcases hv with hv | hv
          · cases b <;> simp [hlt, hv]
          · simp [hlt, hv, undef]
        · simp [hge]
      unfold Region.wanted
      rw [hgu]
      simpa using hy
    unfold wpOp
    simp only [ho, hw, Bool.false_eq_true, if_false]
    exact hK undef w (Gr.refl w) rfl) hrest

theorem GW.mv {ψ : Ass} {x : Operand} (ho : ops[i]? = some o) (hgd : GuardOK ops Φ i o) (hop : o.op = .move x ∨ o.op = .assign x) (hx : Knows ops Φ a₀ w₀ i x ψ) (hψ : Lasts ψ)
    (hrest : GW P ops Q a₀ w₀ (setA Φ i ψ) (i + 1)) : GW P ops Q a₀ w₀ Φ i :=
  GW.op ψ ho hψ hgd (fun a w hg hkn => .inl ⟨a.eval x, w, by rcases hop with h | h <;> simp [execOp, h], Gr.refl w, hx a w hg hkn⟩) hrest

theorem GW.pick {ψ : Ass} {c x y : Operand} {b : Bool} (ho : ops[i]? = some o) (hgd : GuardOK ops Φ i o) (hop : o.op = .pick c x y) (hc : Knows ops Φ a₀ w₀ i c (eqv (.bool b)))
    (hx : Knows ops Φ a₀ w₀ i (if b then x else y) ψ) (hψ : Lasts ψ) (hrest : GW P ops Q a₀ w₀ (setA Φ i ψ) (i + 1)) : GW P ops Q a₀ w₀ Φ i :=
  GW.op ψ ho hψ hgd (fun a w hg hkn => .inl ⟨a.eval (if b then x else y), w, by
    have h1 : a.eval c = .bool b := hc a w hg hkn
    cases b <;> simp [execOp, hop, h1, asBool], Gr.refl w, hx a w hg hkn⟩) hrest

theorem GW.un {ψ : Ass} {x : Operand} (φ : Ass) (ho : ops[i]? = some o) (hgd : GuardOK ops Φ i o) (hx : Knows ops Φ a₀ w₀ i x ψ) (hφ : Lasts φ)
    (h : ∀ (a : Act) (w : World), Gr w₀ w → ψ (a.eval x) w → Res P (execOp a.eval o) φ w) (hrest : GW P ops Q a₀ w₀ (setA Φ i φ) (i + 1)) : GW P ops Q a₀ w₀ Φ i :=
  GW.op φ ho hφ hgd (fun a w hg hkn => h a w hg (hx a w hg hkn)) hrest

theorem GW.bi {ψ χ : Ass} {x y : Operand} (φ : Ass) (ho : ops[i]? = some o) (hgd : GuardOK ops Φ i o) (hx : Knows ops Φ a₀ w₀ i x ψ) (hy : Knows ops Φ a₀ w₀ i y χ) (hφ : Lasts φ)
    (h : ∀ (a : Act) (w : World), Gr w₀ w → ψ (a.eval x) w → χ (a.eval y) w → Res P (execOp a.eval o) φ w) (hrest : GW P ops Q a₀ w₀ (setA Φ i φ) (i + 1)) : GW P ops Q a₀ w₀ Φ i :=
  GW.op φ ho hφ hgd (fun a w hg hkn => h a w hg (hx a w hg hkn) (hy a w hg hkn)) hrest

/-- An operation on one operand, as the function f of that operand's value. -/
theorem GW.via {ψ : Ass} {x : Operand} (f : Value → Sem Value) (φ : Ass) (ho : ops[i]? = some o) (hgd : GuardOK ops Φ i o) (he : ∀ ρ : Operand → Value, execOp ρ o = (do pure (Next.value (← f (ρ x))))) (hx : Knows ops Φ a₀ w₀ i x ψ) (hφ : Lasts φ)
    (h : ∀ v w, Gr w₀ w → ψ v w → ∃ u w', (f v).run P w = .ok u w' ∧ Gr w w' ∧ φ u w') (hrest : GW P ops Q a₀ w₀ (setA Φ i φ) (i + 1)) : GW P ops Q a₀ w₀ Φ i :=
  GW.un φ ho hgd hx hφ (fun a w hg hv => by
    obtain ⟨u, w', h1, h2, h3⟩ := h _ w hg hv
    refine .val (v := u) (w' := w') ?_ h2 h3
    rw [he, Sem.run_bind, h1]
    rfl) hrest
theorem GW.via2 {ψ χ : Ass} {x y : Operand} (f : Value → Value → Sem Value) (φ : Ass) (ho : ops[i]? = some o) (hgd : GuardOK ops Φ i o) (he : ∀ ρ : Operand → Value, execOp ρ o = (do pure (Next.value (← f (ρ x) (ρ y))))) (hx : Knows ops Φ a₀ w₀ i x ψ) (hy : Knows ops Φ a₀ w₀ i y χ) (hφ : Lasts φ)
    (h : ∀ v u w, Gr w₀ w → ψ v w → χ u w → ∃ r w', (f v u).run P w = .ok r w' ∧ Gr w w' ∧ φ r w') (hrest : GW P ops Q a₀ w₀ (setA Φ i φ) (i + 1)) : GW P ops Q a₀ w₀ Φ i :=
  GW.bi φ ho hgd hx hy hφ (fun a w hg hv hu => by
    obtain ⟨u, w', h1, h2, h3⟩ := h _ _ w hg hv hu
    refine .val (v := u) (w' := w') ?_ h2 h3
    rw [he, Sem.run_bind, h1]
    rfl) hrest

/-- An operator on two numbers, strings .. that are known. -/
theorem GW.bin {x y : Operand} {vx vy : Value} {bop : BinOp} {t t' : TypeId} (v : Value) (ho : ops[i]? = some o) (hgd : GuardOK ops Φ i o) (hop : o.op = .binOp bop t x y t')
    (hx : Knows ops Φ a₀ w₀ i x (eqv vx)) (hy : Knows ops Φ a₀ w₀ i y (eqv vy)) (hrun : ∀ w, (do eqGuard bop t x y vx vy; binOp bop t vx vy : Sem Value).run P w = .ok v w)
    (hrest : GW P ops Q a₀ w₀ (setA Φ i (eqv v)) (i + 1)) : GW P ops Q a₀ w₀ Φ i :=
  GW.bi (eqv v) ho hgd hx hy (eqv_lasts v) (fun a w _ h1 h2 => .here (by
    have h1' : a.eval x = vx := h1
    have h2' : a.eval y = vy := h2
    have h3 := hrun w
    simp only [execOp, hop, h1', h2']
    rw [Sem.run_bind, h3]
    rfl) rfl) hrest

theorem run_eql_str {P : Program} {a b : List UInt8} (h : a = b) (T : TypeId) (x y : Operand) (w : World) : (do eqGuard .eql T x y (.string ⟨a.toArray⟩) (.string ⟨b.toArray⟩); binOp .eql T (.string ⟨a.toArray⟩) (.string ⟨b.toArray⟩) : Sem Value).run P w = .ok (.bool true) w := by
  subst h
  simp [go_sem]
theorem run_eql_str' {P : Program} (a b : List UInt8) (T : TypeId) (x y : Operand) (w : World) : (do eqGuard .eql T x y (.string ⟨a.toArray⟩) (.string ⟨b.toArray⟩); binOp .eql T (.string ⟨a.toArray⟩) (.string ⟨b.toArray⟩) : Sem Value).run P w = .ok (.bool (a == b)) w := by
  simp [go_sem]
theorem run_neq_str' {P : Program} (a b : List UInt8) (T : TypeId) (x y : Operand) (w : World) : (do eqGuard .neq T x y (.string ⟨a.toArray⟩) (.string ⟨b.toArray⟩); binOp .neq T (.string ⟨a.toArray⟩) (.string ⟨b.toArray⟩) : Sem Value).run P w = .ok (.bool (!(a == b))) w := by
  simp [go_sem]
theorem run_eql_int {P : Program} {k : IntKind} {a b : Int} (h : a = b) (T : TypeId) (x y : Operand) (w : World) : (do eqGuard .eql T x y (.int k a) (.int k b); binOp .eql T (.int k a) (.int k b) : Sem Value).run P w = .ok (.bool true) w := by
  subst h
  simp [go_sem]
theorem run_eql_int' {P : Program} {k : IntKind} (a b : Int) (T : TypeId) (x y : Operand) (w : World) : (do eqGuard .eql T x y (.int k a) (.int k b); binOp .eql T (.int k a) (.int k b) : Sem Value).run P w = .ok (.bool (a == b)) w := by
  simp [go_sem]
theorem run_neq_int' {P : Program} {k : IntKind} (a b : Int) (T : TypeId) (x y : Operand) (w : World) : (do eqGuard .neq T x y (.int k a) (.int k b); binOp .neq T (.int k a) (.int k b) : Sem Value).run P w = .ok (.bool (a != b)) w := by
  simp [go_sem]
theorem run_callFunc_enter {f : FuncId} {fn : Func} (hf : P.funcs[f]? = some fn) (hn : (fn.name == "runtime.NumGoroutine") = false) (hb : fn.body.isNone = false) (args : Array Value) (w : World) : (callFunc f args).run P w = .ok (.enter f args) w := by
  have hn' : ¬ fn.name = "runtime.NumGoroutine" := by simpa using hn
  have hb' : ¬ fn.body = none := by intro h; rw [h] at hb; cases hb
  simp [callFunc, hf, hn', hb', Sem.run_bind]

/-- A call of a Go function by its contract. -/
theorem GW.call {xs : Array Operand} {ats : Array TypeId} {f : FuncId} {fn : Func} (φ : Ass) (ho : ops[i]? = some o) (hgd : GuardOK ops Φ i o)
    (hop : o.op = .call { callee := .value (.func f), args := xs, argTypes := ats }) (hf : P.funcs[f]? = some fn) (hn : (fn.name == "runtime.NumGoroutine") = false) (hb : fn.body.isNone = false) (hφ : Lasts φ)
    (h : ∀ (a : Act) (w : World), Gr w₀ w → (∀ t r, knownAt ops i t = some r → KnownAs Φ a₀ a w t r) → Calls P f (xs.map a.eval) w (Ret φ w)) (hrest : GW P ops Q a₀ w₀ (setA Φ i φ) (i + 1)) : GW P ops Q a₀ w₀ Φ i :=
  GW.op φ ho hφ hgd (fun a w hg hkn => .inr ⟨f, xs.map a.eval, by
    have e : execOp a.eval o = callFunc f (#[] ++ xs.map a.eval ++ #[]) := by
      obtain ⟨dst, op, ty, pos, after, guard⟩ := o
      simp only at hop
      subst hop
      rfl
    rw [e, run_callFunc_enter hf hn hb]
    simp, h a w hg hkn⟩) hrest
theorem GW.call0 {ats : Array TypeId} {f : FuncId} {fn : Func} (φ : Ass) (ho : ops[i]? = some o) (hgd : GuardOK ops Φ i o)
    (hop : o.op = .call { callee := .value (.func f), args := #[], argTypes := ats }) (hf : P.funcs[f]? = some fn) (hn : (fn.name == "runtime.NumGoroutine") = false) (hb : fn.body.isNone = false) (hφ : Lasts φ)
    (h : ∀ w, Gr w₀ w → Calls P f #[] w (Ret φ w)) (hrest : GW P ops Q a₀ w₀ (setA Φ i φ) (i + 1)) : GW P ops Q a₀ w₀ Φ i :=
  GW.call φ ho hgd hop hf hn hb hφ (fun a w hg _ => by simpa using h w hg) hrest
theorem GW.call1 {x : Operand} {ψ : Ass} {ats : Array TypeId} {f : FuncId} {fn : Func} (φ : Ass) (ho : ops[i]? = some o) (hgd : GuardOK ops Φ i o)
    (hop : o.op = .call { callee := .value (.func f), args := #[x], argTypes := ats }) (hf : P.funcs[f]? = some fn) (hn : (fn.name == "runtime.NumGoroutine") = false) (hb : fn.body.isNone = false) (hφ : Lasts φ)
    (hx : Knows ops Φ a₀ w₀ i x ψ) (h : ∀ v w, Gr w₀ w → ψ v w → Calls P f #[v] w (Ret φ w)) (hrest : GW P ops Q a₀ w₀ (setA Φ i φ) (i + 1)) : GW P ops Q a₀ w₀ Φ i :=
  GW.call φ ho hgd hop hf hn hb hφ (fun a w hg hkn => by simpa using h _ w hg (hx a w hg hkn)) hrest
theorem GW.call2 {x y : Operand} {ψ χ : Ass} {ats : Array TypeId} {f : FuncId} {fn : Func} (φ : Ass) (ho : ops[i]? = some o) (hgd : GuardOK ops Φ i o)
    (hop : o.op = .call { callee := .value (.func f), args := #[x, y], argTypes := ats }) (hf : P.funcs[f]? = some fn) (hn : (fn.name == "runtime.NumGoroutine") = false) (hb : fn.body.isNone = false) (hφ : Lasts φ)
    (hx : Knows ops Φ a₀ w₀ i x ψ) (hy : Knows ops Φ a₀ w₀ i y χ) (h : ∀ v u w, Gr w₀ w → ψ v w → χ u w → Calls P f #[v, u] w (Ret φ w)) (hrest : GW P ops Q a₀ w₀ (setA Φ i φ) (i + 1)) : GW P ops Q a₀ w₀ Φ i :=
  GW.call φ ho hgd hop hf hn hb hφ (fun a w hg hkn => by simpa using h _ _ w hg (hx a w hg hkn) (hy a w hg hkn)) hrest
theorem GW.call3 {x y z : Operand} {ψ χ ξ : Ass} {ats : Array TypeId} {f : FuncId} {fn : Func} (φ : Ass) (ho : ops[i]? = some o) (hgd : GuardOK ops Φ i o)
    (hop : o.op = .call { callee := .value (.func f), args := #[x, y, z], argTypes := ats }) (hf : P.funcs[f]? = some fn) (hn : (fn.name == "runtime.NumGoroutine") = false) (hb : fn.body.isNone = false) (hφ : Lasts φ)
    (hx : Knows ops Φ a₀ w₀ i x ψ) (hy : Knows ops Φ a₀ w₀ i y χ) (hz : Knows ops Φ a₀ w₀ i z ξ) (h : ∀ v u s w, Gr w₀ w → ψ v w → χ u w → ξ s w → Calls P f #[v, u, s] w (Ret φ w)) (hrest : GW P ops Q a₀ w₀ (setA Φ i φ) (i + 1)) : GW P ops Q a₀ w₀ Φ i :=
  GW.call φ ho hgd hop hf hn hb hφ (fun a w hg hkn => by simpa using h _ _ _ w hg (hx a w hg hkn) (hy a w hg hkn) (hz a w hg hkn)) hrest
end

/-! ### assertions on byte slices -/
/-- A slice that reads as the bytes l. -/
def isB (l : List UInt8) : Ass := fun v w => ∃ A c, v = .slice A l.length c ∧ l.length ≤ c ∧ c ≤ maxLen ∧ RB w w.heap.size A l
theorem isB_lasts (l : List UInt8) : Lasts (isB l) := fun _ _ _ hg ⟨A, c, hv, h1, h2, hr⟩ => ⟨A, c, hv, h1, h2, (hr.below hg).more hg.size⟩
theorem isB_of_own {E : TypeId} {w : World} {base : Nat} {v : Value} {l : List UInt8} (h : OB E w base v l) : isB l v w := by
  obtain ⟨A, c, rfl, h1, h2⟩ := h.shape
  exact ⟨A, c, rfl, h1, h2, h.rb⟩
/-- A slice of byte slices that read as ls. -/
def isBB (ls : List (List UInt8)) : Ass := fun v w => ∃ Ap cp, v = .slice Ap ls.length cp ∧ ls.length ≤ cp ∧
  ∀ i (h : i < ls.length), ∃ ad A c, Ap = some ad ∧ ad.block < w.heap.size ∧ w.cell? (ad.add i) = some (.slice A ls[i].length c) ∧ ls[i].length ≤ c ∧ c ≤ maxLen ∧ RB w w.heap.size A ls[i]
theorem isBB_lasts (ls : List (List UInt8)) : Lasts (isBB ls) := fun _ _ w' hg ⟨Ap, cp, hv, hc, h⟩ => ⟨Ap, cp, hv, hc, fun i hi => by
  obtain ⟨ad, A, c, h1, h2, h3, h4, h5, h6⟩ := h i hi
  refine ⟨ad, A, c, h1, Nat.lt_of_lt_of_le h2 hg.size, ?_, h4, h5, (h6.below hg).more hg.size⟩
  rw [hg.cell (p := ad.add i) (by rw [block_of_add]; exact h2)]
  exact h3⟩
/-- The text l. -/
abbrev str (l : List UInt8) : Value := .string ⟨l.toArray⟩
section
variable {P : Program} {ops : Array Oper} {Q : Exit → Act → World → Prop} {a₀ : Act} {w₀ : World} {Φ : Nat → Ass} {i : Nat} {o : Oper}
/-- 'string(b)' -/
theorem GW.bs {x : Operand} {src dst E : TypeId} (l : List UInt8) (ho : ops[i]? = some o) (hgd : GuardOK ops Φ i o) (hop : o.op = .convert src dst x)
    (hs : P.underlying src = some (.slice E)) (he : P.underlying E = some (.int .u8)) (hd : P.underlying dst = some .string) (hx : Knows ops Φ a₀ w₀ i x (isB l)) (hrest : GW P ops Q a₀ w₀ (setA Φ i (eqv (str l))) (i + 1)) : GW P ops Q a₀ w₀ Φ i :=
  GW.un (eqv (str l)) ho hgd hx (eqv_lasts _) (fun a w _ ⟨A, c, hv, _, _, hr⟩ => .here (by
    simp only [execOp, hop, hv]
    rw [Sem.run_bind, run_bytes_string w src dst E hs he hd _ A c l.length l rfl hr]
    rfl) rfl) hrest
/-- '[]byte(s)' -/
theorem GW.sb {x : Operand} {src dst E : TypeId} (l : List UInt8) (ho : ops[i]? = some o) (hgd : GuardOK ops Φ i o) (hop : o.op = .convert src dst x)
    (hs : P.underlying src = some .string) (hd : P.underlying dst = some (.slice E)) (he : P.underlying E = some (.int .u8)) (hl : l.length ≤ maxLen) (hx : Knows ops Φ a₀ w₀ i x (eqv (str l))) (hrest : GW P ops Q a₀ w₀ (setA Φ i (isB l)) (i + 1)) : GW P ops Q a₀ w₀ Φ i :=
  GW.un (isB l) ho hgd hx (isB_lasts _) (fun a w _ hv => by
    have hv' : a.eval x = str l := hv
    obtain ⟨c, w', hrun, h1, h2, h3, h4⟩ := run_string_bytes (P := P) w src dst E hs hd he l hl
    refine .val (v := .slice (some ⟨w.heap.size, 0, none⟩) l.length c) (w' := w') ?_ h4 ⟨_, c, rfl, h2, h3, h1.rb⟩
    simp only [execOp, hop, hv', str]
    rw [Sem.run_bind, hrun]
    rfl) hrest

theorem run_slice_lo {w : World} {T E : TypeId} {i0 : TypeInfo} (hT : P.underlying T = some (.slice E)) (hE : P.info? E = some i0) (h1 : i0.size = 1) {A : Option Addr} {l : List UInt8} {c B : Nat} (hr : RB w B A l) (hc : l.length ≤ c) (k : IntKind) (n : Nat) (hn : n ≤ l.length) :
    (Instr.sliceAt T (.slice A l.length c) (some (.int k (n : Int))) none none).run P w = .ok (.slice (if c = n then A else A.map (·.add n)) (l.drop n).length (c - n)) w ∧ RB w B (if c = n then A else A.map (·.add n)) (l.drop n) := by
  refine ⟨?_, hr.drop hn hc⟩
  have h2 : (n : Int) ≤ (l.length : Int) := by omega
  simp [Instr.sliceAt, Instr.slice, Instr.sliceBounds, Instr.sliceBound, run_underlying hT, sizeOf, typeInfo, hE, h1, asIntOf, hn]
theorem run_slice_hi {w : World} {T E : TypeId} {i0 : TypeInfo} (hT : P.underlying T = some (.slice E)) (hE : P.info? E = some i0) {A : Option Addr} {l : List UInt8} {c B : Nat} (hr : RB w B A l) (hc : l.length ≤ c) (k : IntKind) (n : Nat) (hn : n ≤ l.length) :
    ∃ A', (Instr.sliceAt T (.slice A l.length c) none (some (.int k (n : Int))) none).run P w = .ok (.slice A' (l.take n).length c) w ∧ RB w B A' (l.take n) := by
  have h2 : (n : Int) ≤ (c : Int) := by omega
  have hn' : n ≤ c := by omega
  have e : A.map (·.add 0) = A := by cases A <;> simp [Addr.add]
  refine ⟨A, ?_, hr.take hn⟩
  simp [Instr.sliceAt, Instr.slice, Instr.sliceBounds, Instr.sliceBound, run_underlying hT, sizeOf, typeInfo, hE, asIntOf, hn', hn, e]
/-- 'b[n:]' -/
theorem GW.slo {x y : Operand} {T E : TypeId} {i0 : TypeInfo} (l : List UInt8) (k : IntKind) (n : Nat) (ho : ops[i]? = some o) (hgd : GuardOK ops Φ i o) (hop : o.op = .slice T x (some y) none none)
    (hT : P.underlying T = some (.slice E)) (hE : P.info? E = some i0) (h1 : i0.size = 1) (hx : Knows ops Φ a₀ w₀ i x (isB l)) (hy : Knows ops Φ a₀ w₀ i y (eqv (.int k (n : Int)))) (hn : n ≤ l.length)
    (hrest : GW P ops Q a₀ w₀ (setA Φ i (isB (l.drop n))) (i + 1)) : GW P ops Q a₀ w₀ Φ i :=
  GW.bi (isB (l.drop n)) ho hgd hx hy (isB_lasts _) (fun a w _ ⟨A, c, hv, hc, hm, hr⟩ hv2 => by
    have hv2' : a.eval y = .int k (n : Int) := hv2
    obtain ⟨h2, h3⟩ := run_slice_lo (P := P) (w := w) hT hE h1 hr hc k n hn
    refine .here (v := .slice (if c = n then A else A.map (·.add n)) (l.drop n).length (c - n)) ?_ ⟨_, _, rfl, by rw [List.length_drop]; omega, by omega, h3⟩
    simp only [execOp, hop, hv, Option.map_some, Option.map_none, hv2']
    rw [Sem.run_bind, h2]
    rfl) hrest
/-- 'b[:n]' -/
theorem GW.shi {x y : Operand} {T E : TypeId} {i0 : TypeInfo} (l : List UInt8) (k : IntKind) (n : Nat) (ho : ops[i]? = some o) (hgd : GuardOK ops Φ i o) (hop : o.op = .slice T x none (some y) none)
    (hT : P.underlying T = some (.slice E)) (hE : P.info? E = some i0) (hx : Knows ops Φ a₀ w₀ i x (isB l)) (hy : Knows ops Φ a₀ w₀ i y (eqv (.int k (n : Int)))) (hn : n ≤ l.length)
    (hrest : GW P ops Q a₀ w₀ (setA Φ i (isB (l.take n))) (i + 1)) : GW P ops Q a₀ w₀ Φ i :=
  GW.bi (isB (l.take n)) ho hgd hx hy (isB_lasts _) (fun a w _ ⟨A, c, hv, hc, hm, hr⟩ hv2 => by
    have hv2' : a.eval y = .int k (n : Int) := hv2
    obtain ⟨A', h2, h3⟩ := run_slice_hi (P := P) (w := w) hT hE hr hc k n hn
    refine .here (v := .slice A' (l.take n).length c) ?_ ⟨_, _, rfl, by rw [List.length_take]; omega, hm, h3⟩
    simp only [execOp, hop, hv, Option.map_some, Option.map_none, hv2']
    rw [Sem.run_bind, h2]
    rfl) hrest
/-- '[][]byte{b}', a variadic call's one part. -/
theorem GW.one {x : Operand} {T E : TypeId} {i0 : TypeInfo} (l : List UInt8) (ho : ops[i]? = some o) (hgd : GuardOK ops Φ i o) (hop : o.op = .buildSlice T 1 #[(0, x)])
    (hT : P.underlying T = some (.slice E)) (hE : P.info? E = some i0) (h1 : i0.size = 1) (hz : i0.zero = some (.slice none 0 0)) (hx : Knows ops Φ a₀ w₀ i x (isB l))
    (hrest : GW P ops Q a₀ w₀ (setA Φ i (isBB [l])) (i + 1)) : GW P ops Q a₀ w₀ Φ i :=
  GW.un (isBB [l]) ho hgd hx (isBB_lasts _) (fun a w _ ⟨A, c, hv, hc, hm, hr⟩ => by
    refine .val (v := .slice (some ⟨w.heap.size, 0, none⟩) 1 1) (w' := w.alloc (.cells #[.slice A l.length c] E)) ?_ ((Gr.refl w).alloc _) ⟨_, 1, rfl, Nat.le_refl _, fun j hj => ?_⟩
    · have e1 : Array.range 1 = #[0] := rfl
      simp [execOp, hop, hv, Instr.buildSlice, run_underlying hT, sizeOf, typeInfo, hE, h1, zeroValue, hz, Value.cells, Instr.fill, newRow, e1]
    · have h0 : j = 0 := by simp at hj; exact hj
      subst h0
      refine ⟨⟨w.heap.size, 0, none⟩, A, c, rfl, by simp, ?_, hc, hm, (hr.alloc (Nat.le_refl _) _).more (by simp)⟩
      simp [Addr.add]) hrest
/-- '[][]byte{a, b}', a variadic call's two parts. -/
theorem GW.two {x y : Operand} {T E : TypeId} {i0 : TypeInfo} (l m : List UInt8) (ho : ops[i]? = some o) (hgd : GuardOK ops Φ i o) (hop : o.op = .buildSlice T 2 #[(0, x), (1, y)])
    (hT : P.underlying T = some (.slice E)) (hE : P.info? E = some i0) (h1 : i0.size = 1) (hz : i0.zero = some (.slice none 0 0)) (hx : Knows ops Φ a₀ w₀ i x (isB l)) (hy : Knows ops Φ a₀ w₀ i y (isB m))
    (hrest : GW P ops Q a₀ w₀ (setA Φ i (isBB [l, m])) (i + 1)) : GW P ops Q a₀ w₀ Φ i :=
  GW.bi (isBB [l, m]) ho hgd hx hy (isBB_lasts _) (fun a w _ ⟨A, c, hv, hc, hm, hr⟩ ⟨A', c', hv', hc', hm', hr'⟩ => by
    refine .val (v := .slice (some ⟨w.heap.size, 0, none⟩) 2 2) (w' := w.alloc (.cells #[.slice A l.length c, .slice A' m.length c'] E)) ?_ ((Gr.refl w).alloc _) ⟨_, 2, rfl, Nat.le_refl _, fun j hj => ?_⟩
    · have e1 : Array.range 2 = #[0, 1] := rfl
      simp [execOp, hop, hv, hv', Instr.buildSlice, run_underlying hT, sizeOf, typeInfo, hE, h1, zeroValue, hz, Value.cells, Instr.fill, newRow, e1]
    · have hj2 : j < 2 := hj
      match j, hj2 with
      | 0, _ => exact ⟨⟨w.heap.size, 0, none⟩, A, c, rfl, by simp, by simp [Addr.add], hc, hm, (hr.alloc (Nat.le_refl _) _).more (by simp)⟩
      | 1, _ => exact ⟨⟨w.heap.size, 0, none⟩, A', c', rfl, by simp, by simp [Addr.add], hc', hm', (hr'.alloc (Nat.le_refl _) _).more (by simp)⟩) hrest
end
end Go.Proofs.Ytpkbdodclkgjpaa

