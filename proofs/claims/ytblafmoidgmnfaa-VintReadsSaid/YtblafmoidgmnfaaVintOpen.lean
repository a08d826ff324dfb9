/- The law's arguments, opened: a slice of things that are put or read. No condition. -/
import Derived.Test.YtblafmoidgmnfaaFrameB
import Derived.Test.YtblafmoidgmnfaaVintActs
set_option linter.unusedVariables false
set_option linter.unusedSimpArgs false
namespace Go.Proofs.Ytblafmoidgmnfaa
open Go Go.RowKit W Go.ChangeShapes Go.WideShapes Go.ChangeAt
namespace Vint
instance : Inhabited ActT := ⟨⟨0, 0, 0, 0, []⟩⟩
theorem open_acts {H : Type} {enc : TypeId × Value → H} {W : World} {base : Nat} {sp : Nat → Bool} {held : Bool} {a : Option Addr} {len cap : Nat} {d : DataW H} {p : List MemPlace}
    (h : DataW.Trod enc Try.prog W base sp held 23 (.slice a len cap) d p) : ∃ ls : List ActT, len = ls.length ∧ ls.length ≤ cap ∧ cap ≤ maxLen ∧ LA W W.heap.size a ls ∧ ∀ x ∈ ls, x.s.length ≤ maxLen ∧ (Lit.int .i64 x.k).wf = true := by
  obtain ⟨hl, hm, hrow⟩ := Fr.open_rows Try.underlying23 Try.underlying29 (by kernel_rfl) (by kernel_rfl) (by decide) h
  have each : ∀ i, i < len → ∃ x : ActT, (∃ ad, a = some ad ∧ ad.block < W.heap.size ∧ ∀ j v, (actC x)[j]? = some v → W.cell? (ad.add (i * 5 + j)) = some v) ∧ (x.s.length ≤ maxLen ∧ (Lit.int .i64 x.k).wf = true) := by
    intro i hi
    obtain ⟨ad, ha, hlt, cs, hlen, hcell, n, hf⟩ := hrow i hi
    obtain ⟨c0, c1, c2, c3, c4, rfl⟩ : ∃ c0 c1 c2 c3 c4, cs = [c0, c1, c2, c3, c4] := by
      match cs, hlen with
      | [c0, c1, c2, c3, c4], _ => exact ⟨c0, c1, c2, c3, c4, rfl⟩
    obtain ⟨y0, h0⟩ := hf 0 _ c0 rfl rfl
    obtain ⟨y1, h1⟩ := hf 1 _ c1 rfl rfl
    obtain ⟨y2, h2⟩ := hf 2 _ c2 rfl rfl
    obtain ⟨y3, h3⟩ := hf 3 _ c3 rfl rfl
    obtain ⟨y4, h4⟩ := hf 4 _ c4 rfl rfl
    obtain ⟨z0, e0, _, w0⟩ := DataW.trod_int Try.underlying3 h0
    obtain ⟨z1, e1, _, w1⟩ := DataW.trod_int Try.underlying27 h1
    obtain ⟨z2, e2, _, w2⟩ := DataW.trod_int Try.underlying27 h2
    obtain ⟨z3, e3, _, w3⟩ := DataW.trod_int Try.underlying3 h3
    obtain ⟨z4, e4, _, w4⟩ := DataW.trod_string Try.underlying9 h4
    obtain ⟨v1, rfl⟩ := Fr.word_u64 w1
    obtain ⟨v2, rfl⟩ := Fr.word_u64 w2
    obtain rfl : c0 = _ := List.cons.inj e0 |>.1
    obtain rfl : c1 = _ := List.cons.inj e1 |>.1
    obtain rfl : c2 = _ := List.cons.inj e2 |>.1
    obtain rfl : c3 = _ := List.cons.inj e3 |>.1
    obtain rfl : c4 = _ := List.cons.inj e4 |>.1
    refine ⟨⟨z0, v1, v2, z3, z4.data.toList⟩, ⟨ad, ha, hlt, fun j v hv => hcell j v ?_⟩, by show z4.data.toList.length ≤ maxLen; rw [Array.length_toList]; exact w4, w3⟩
    rw [← hv]
    match j with
    | 0 => rfl
    | 1 => rfl
    | 2 => rfl
    | 3 => rfl
    | 4 => rfl
    | j + 5 => rfl
  obtain ⟨L, hL⟩ := Deep.choose_lt each
  have hlen : ((List.range len).map L).length = len := by simp
  refine ⟨(List.range len).map L, hlen.symm, by omega, hm, fun i hi => ?_, fun x hx => ?_⟩
  · rw [hlen] at hi
    have e : ((List.range len).map L)[i]'(by omega) = L i := by simp
    rw [e]
    exact (hL i hi).1
  · obtain ⟨i, hi, rfl⟩ := List.mem_map.1 hx
    exact (hL i (List.mem_range.1 hi)).2
end Vint
end Go.Proofs.Ytblafmoidgmnfaa
