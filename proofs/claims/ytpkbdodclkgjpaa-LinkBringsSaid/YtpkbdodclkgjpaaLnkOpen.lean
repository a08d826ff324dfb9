/- The laws' arguments, opened: a slice of acts. No condition. -/
import Derived.Test.YtpkbdodclkgjpaaFrame
import Derived.Test.YtpkbdodclkgjpaaFrameB
import Derived.Test.YtpkbdodclkgjpaaFrameC
import Derived.Test.YtpkbdodclkgjpaaLnkLaw
set_option linter.unusedVariables false
set_option linter.unusedSimpArgs false
namespace Go.Proofs.Ytpkbdodclkgjpaa
open Go Go.RowKit W Go.ChangeShapes Go.WideShapes Go.ChangeAt
namespace Ln
instance : Inhabited Ac := ⟨⟨0, 0, 0, 0, 0, []⟩⟩
def BndA (t : Ac) : Prop := t.b.length ≤ maxLen ∧ -9223372036854775808 ≤ t.t ∧ t.t ≤ 9223372036854775807
theorem AR.of_rows {w : World} {B : Nat} {A : Option Addr} (l : List Ac) (h : ∀ i (hi : i < l.length), ∃ ad, A = some ad ∧ ad.block < B ∧ ∀ j v, (acL l[i])[j]? = some v → w.cell? (ad.add (i * 6 + j)) = some v) : AR w B A l := by
  refine ⟨acs_len l, fun hp => ?_⟩
  obtain ⟨ad, hA, hB, _⟩ := h 0 hp
  refine ⟨ad, hA, hB, fun j u hu => ?_⟩
  have hj : j < l.length * 6 := by
    have := (List.getElem?_eq_some_iff.1 hu).1
    rwa [acs_len] at this
  have hi : j / 6 < l.length := by omega
  obtain ⟨ad', hA', _, hc⟩ := h (j / 6) hi
  rw [hA] at hA'
  cases hA'
  have e : j = j / 6 * 6 + j % 6 := by omega
  have hf := flat_at acL 6 (fun _ => rfl) l (j / 6) (j % 6) hi (by omega)
  rw [← e] at hf
  have hu' : (acL l[j / 6])[j % 6]? = some u := by rw [← hf]; exact hu
  have := hc (j % 6) u hu'
  rwa [← e] at this
theorem open_acts {H : Type} {enc : TypeId × Value → H} {W : World} {base : Nat} {sp : Nat → Bool} {held : Bool} {a : Option Addr} {len cap : Nat} {d : DataW H} {p : List MemPlace}
    (h : DataW.Trod enc Try.prog W base sp held 22 (.slice a len cap) d p) : ∃ ls : List Ac, len = ls.length ∧ ls.length ≤ cap ∧ cap ≤ maxLen ∧ AR W W.heap.size a ls ∧ ∀ x ∈ ls, BndA x := by
  obtain ⟨hl, hm, hrow⟩ := Fr.open_rows Try.underlying22 Try.underlying31 (by kernel_rfl) (by kernel_rfl) (by decide) h
  have each : ∀ i, i < len → ∃ x : Ac, (∃ ad, a = some ad ∧ ad.block < W.heap.size ∧ ∀ j v, (acL x)[j]? = some v → W.cell? (ad.add (i * 6 + j)) = some v) ∧ BndA x := by
    intro i hi
    obtain ⟨ad, ha, hlt, cs, hlen, hcell, n, hf⟩ := hrow i hi
    obtain ⟨c0, c1, c2, c3, c4, c5, rfl⟩ : ∃ c0 c1 c2 c3 c4 c5, cs = [c0, c1, c2, c3, c4, c5] := by
      match cs, hlen with
      | [c0, c1, c2, c3, c4, c5], _ => exact ⟨c0, c1, c2, c3, c4, c5, rfl⟩
    obtain ⟨y0, h0⟩ := hf 0 _ c0 rfl rfl
    obtain ⟨y1, h1⟩ := hf 1 _ c1 rfl rfl
    obtain ⟨y2, h2⟩ := hf 2 _ c2 rfl rfl
    obtain ⟨y3, h3⟩ := hf 3 _ c3 rfl rfl
    obtain ⟨y4, h4⟩ := hf 4 _ c4 rfl rfl
    obtain ⟨y5, h5⟩ := hf 5 _ c5 rfl rfl
    obtain ⟨z0, e0, _, w0⟩ := DataW.trod_int Try.underlying3 h0
    obtain ⟨z1, e1, _, w1⟩ := DataW.trod_int Try.underlying3 h1
    obtain ⟨z2, e2, _, w2⟩ := DataW.trod_int Try.underlying3 h2
    obtain ⟨z3, e3, _, w3⟩ := DataW.trod_int Try.underlying3 h3
    obtain ⟨z4, e4, _, w4⟩ := DataW.trod_int Try.underlying29 h4
    obtain ⟨z5, e5, _, w5⟩ := DataW.trod_string Try.underlying9 h5
    obtain ⟨u4, rfl⟩ := Fr.word_u32 w4
    obtain rfl : c0 = _ := List.cons.inj e0 |>.1
    obtain rfl : c1 = _ := List.cons.inj e1 |>.1
    obtain rfl : c2 = _ := List.cons.inj e2 |>.1
    obtain rfl : c3 = _ := List.cons.inj e3 |>.1
    obtain rfl : c4 = _ := List.cons.inj e4 |>.1
    obtain rfl : c5 = _ := List.cons.inj e5 |>.1
    obtain ⟨b1, b2⟩ := Fr.int_bounds w3
    refine ⟨⟨z0, z1, z2, z3, u4, z5.data.toList⟩, ⟨ad, ha, hlt, fun j v hv => hcell j v ?_⟩, by show z5.data.toList.length ≤ maxLen; rw [Array.length_toList]; exact w5, by simp only []; omega, by simp only []; omega⟩
    rw [← hv]
    match j with
    | 0 => rfl
    | 1 => rfl
    | 2 => rfl
    | 3 => rfl
    | 4 => rfl
    | 5 => rfl
    | j + 6 => rfl
  obtain ⟨L, hL⟩ := Deep.choose_lt each
  have hlen : ((List.range len).map L).length = len := by simp
  refine ⟨(List.range len).map L, hlen.symm, by omega, hm, AR.of_rows _ fun i hi => ?_, fun x hx => ?_⟩
  · rw [hlen] at hi
    have e : ((List.range len).map L)[i]'(by omega) = L i := by simp
    rw [e]
    exact (hL i hi).1
  · obtain ⟨i, hi, rfl⟩ := List.mem_map.1 hx
    exact (hL i (List.mem_range.1 hi)).2
end Ln
end Go.Proofs.Ytpkbdodclkgjpaa

