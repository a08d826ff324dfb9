/- From the row's reading of the arguments to the walk's words, further: slices of structs of one-cell fields. No condition. -/
import Derived.Test.YtpkbdodclkgjpaaFrame
set_option linter.unusedVariables false
set_option linter.unusedSimpArgs false
namespace Go.Proofs.Ytpkbdodclkgjpaa
open Go Go.RowKit W Go.ChangeShapes Go.WideShapes Go.ChangeAt
namespace Fr
/-- Of a slice of structs of one-cell fields: what lies in its rows, and that each cell reads at its field's type. -/
theorem open_rows {H : Type} {enc : TypeId × Value → H} {P : Program} {W : World} {base : Nat} {sp : Nat → Bool} {held : Bool} {T E : TypeId} {fs : Array Field} {a : Option Addr} {len cap : Nat} {d : DataW H} {p : List MemPlace}
    (hT : P.underlying T = some (.slice E)) (hE : P.underlying E = some (.struct fs)) (hone : Go.Deep.oneCellFields P fs = true) (hC : P.cellsOf E = fs.size) (hpos : 0 < fs.size)
    (h : DataW.Trod enc P W base sp held T (.slice a len cap) d p) : len ≤ cap ∧ cap ≤ maxLen ∧ ∀ i, i < len → ∃ ad, a = some ad ∧ ad.block < W.heap.size ∧ ∃ cs : List Value, cs.length = fs.size ∧ (∀ j v, cs[j]? = some v → W.cell? (ad.add (i * fs.size + j)) = some v) ∧
      ∃ n, ∀ (j : Nat) (f : Field) (v : Value), fs[j]? = some f → cs[j]? = some v → ∃ y, DataW.trod enc P W base sp held n f.type [v] = some y := by
  obtain ⟨fuel, hf⟩ := h
  rcases Deep.open_slice hT hf with ⟨hcs, _⟩ | ⟨x, l, c, m, n, D, Pl, hcs, _, hl, hm, hmm, _, hx⟩
  · simp [Value.cells] at hcs
    obtain ⟨rfl, rfl, rfl⟩ := hcs
    exact ⟨Nat.le_refl _, by unfold maxLen; omega, fun i hi => absurd hi (by omega)⟩
  · simp [Value.cells] at hcs
    obtain ⟨rfl, rfl, rfl⟩ := hcs
    have hzl : len ≤ m := by
      rw [hmm]
      split <;> omega
    refine ⟨hl, hm, fun i hi => ?_⟩
    obtain ⟨cs, hc, ht⟩ := hx i (by omega)
    rw [hC] at hc
    obtain ⟨_, hlen, hat⟩ := World.cells?_some hc
    obtain ⟨ys, k, _, _, _, hyl, hfl⟩ := DataW.trod_struct hE ht
    have hat' : ∀ j v, cs[j]? = some v → W.cell? (x.add (i * fs.size + j)) = some v := fun j v hv => by
      have hj : j < fs.size := by rw [← hlen]; exact (List.getElem?_eq_some_iff.1 hv).1
      rw [← add_of_add, hat j hj, hv]
    refine ⟨x, rfl, ?_, cs, hlen, hat', k, fun j f v hj hv => ?_⟩
    · have h0 : cs[0]? = some (cs[0]'(by omega)) := List.getElem?_eq_getElem (by omega)
      have := World.block_lt_of_cell? W _ (hat' 0 _ h0)
      rwa [block_of_add] at this
    · obtain ⟨ho, hk⟩ := Go.Deep.hone_of hone j f hj
      have h1 := hfl j f hj
      rw [ho, hk] at h1
      have hjl : j < cs.length := (List.getElem?_eq_some_iff.1 hv).1
      have hone' : (cs.drop j).take 1 = [v] := by
        rw [List.drop_eq_getElem_cons hjl]
        have : cs[j] = v := (List.getElem?_eq_some_iff.1 hv).2
        rw [this]
        rfl
      rw [hone'] at h1
      have hjy : j < ys.length := by rw [hyl]; omega
      exact ⟨ys[j], h1.trans (List.getElem?_eq_getElem hjy)⟩
end Fr
end Go.Proofs.Ytpkbdodclkgjpaa

