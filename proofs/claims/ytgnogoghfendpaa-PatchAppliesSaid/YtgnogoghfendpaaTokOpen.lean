/- The laws' arguments, opened: a slice of tokens. No condition. -/
import Derived.Test.YtgnogoghfendpaaFrameB
import Derived.Test.YtgnogoghfendpaaFrameC
import Derived.Test.YtgnogoghfendpaaTokLawJ
set_option linter.unusedVariables false
set_option linter.unusedSimpArgs false
namespace Go.Proofs.Ytgnogoghfendpaa
open Go Go.RowKit W Go.ChangeShapes Go.WideShapes Go.ChangeAt
namespace Tk
theorem TR.of_rows {w : World} {B : Nat} {A : Option Addr} (l : List Tok) (h : ∀ i (hi : i < l.length), ∃ ad, A = some ad ∧ ad.block < B ∧ ∀ j v, (tc l[i])[j]? = some v → w.cell? (ad.add (i * 3 + j)) = some v) : TR w B A l := by
  refine ⟨tcs_len l, fun hp => ?_⟩
  obtain ⟨ad, hA, hB, _⟩ := h 0 hp
  refine ⟨ad, hA, hB, fun j u hu => ?_⟩
  have hj : j < l.length * 3 := by
    have := (List.getElem?_eq_some_iff.1 hu).1
    rwa [tcs_len] at this
  have hi : j / 3 < l.length := by omega
  obtain ⟨ad', hA', _, hc⟩ := h (j / 3) hi
  rw [hA] at hA'
  cases hA'
  have e : j = j / 3 * 3 + j % 3 := by omega
  have hf := flat_at tc 3 tc_len l (j / 3) (j % 3) hi (by omega)
  rw [← e] at hf
  have hu' : (tc l[j / 3])[j % 3]? = some u := by rw [← hf]; exact hu
  have := hc (j % 3) u hu'
  rwa [← e] at this
theorem open_toks {H : Type} {enc : TypeId × Value → H} {W : World} {base : Nat} {sp : Nat → Bool} {held : Bool} {a : Option Addr} {len cap : Nat} {d : DataW H} {p : List MemPlace}
    (h : DataW.Trod enc Try.prog W base sp held 23 (.slice a len cap) d p) : ∃ ls : List Tok, len = ls.length ∧ ls.length ≤ cap ∧ cap ≤ maxLen ∧ TR W W.heap.size a ls ∧ ∀ x ∈ ls, Bnd x := by
  obtain ⟨hl, hm, hrow⟩ := Fr.open_rows Try.underlying23 Try.underlying37 (by kernel_rfl) (by kernel_rfl) (by decide) h
  have each : ∀ i, i < len → ∃ x : Tok, (∃ ad, a = some ad ∧ ad.block < W.heap.size ∧ ∀ j v, (tc x)[j]? = some v → W.cell? (ad.add (i * 3 + j)) = some v) ∧ Bnd x := by
    intro i hi
    obtain ⟨ad, ha, hlt, cs, hlen, hcell, n, hf⟩ := hrow i hi
    obtain ⟨c0, c1, c2, rfl⟩ : ∃ c0 c1 c2, cs = [c0, c1, c2] := by
      match cs, hlen with
      | [c0, c1, c2], _ => exact ⟨c0, c1, c2, rfl⟩
    obtain ⟨y0, h0⟩ := hf 0 _ c0 rfl rfl
    obtain ⟨y1, h1⟩ := hf 1 _ c1 rfl rfl
    obtain ⟨y2, h2⟩ := hf 2 _ c2 rfl rfl
    obtain ⟨z0, e0, _, w0⟩ := DataW.trod_int Try.underlying3 h0
    obtain ⟨z1, e1, _, w1⟩ := DataW.trod_int Try.underlying3 h1
    obtain ⟨z2, e2, _, w2⟩ := DataW.trod_string Try.underlying9 h2
    obtain rfl : c0 = _ := List.cons.inj e0 |>.1
    obtain rfl : c1 = _ := List.cons.inj e1 |>.1
    obtain rfl : c2 = _ := List.cons.inj e2 |>.1
    obtain ⟨b1, b2⟩ := Fr.int_bounds w0
    obtain ⟨b3, b4⟩ := Fr.int_bounds w1
    refine ⟨⟨z0, z1, z2.data.toList⟩, ⟨ad, ha, hlt, fun j v hv => hcell j v ?_⟩, by simp only []; omega, by simp only []; omega, by simp only []; omega, by simp only []; omega, by show z2.data.toList.length ≤ maxLen; rw [Array.length_toList]; exact w2⟩
    rw [← hv]
    match j with
    | 0 => rfl
    | 1 => rfl
    | 2 => rfl
    | j + 3 => rfl
  obtain ⟨L, hL⟩ := Deep.choose_lt each
  have hlen : ((List.range len).map L).length = len := by simp
  refine ⟨(List.range len).map L, hlen.symm, by omega, hm, TR.of_rows _ fun i hi => ?_, fun x hx => ?_⟩
  · rw [hlen] at hi
    have e : ((List.range len).map L)[i]'(by omega) = L i := by simp
    rw [e]
    exact (hL i hi).1
  · obtain ⟨i, hi, rfl⟩ := List.mem_map.1 hx
    exact (hL i (List.mem_range.1 hi)).2
end Tk
end Go.Proofs.Ytgnogoghfendpaa

