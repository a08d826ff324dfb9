/- Opening an argument that is an array of ints (of one cell each). No condition. -/
import Derived.Test.YtpkbdodclkgjpaaFrame
set_option linter.unusedVariables false
namespace Go.Proofs.Ytpkbdodclkgjpaa
open Go Go.RowKit W Go.ChangeShapes Go.WideShapes Go.ChangeAt
namespace Fr
theorem ints_of (k : IntKind) : ∀ (cs : List Value), (∀ c ∈ cs, ∃ x, c = .int k x ∧ (Lit.int k x).wf = true) → ∃ xs : List Int, cs = xs.map (.int k) ∧ ∀ x ∈ xs, (Lit.int k x).wf = true
  | [], _ => ⟨[], rfl, by simp⟩
  | c :: cs, h => by
    obtain ⟨x, rfl, hx⟩ := h c (List.mem_cons_self ..)
    obtain ⟨xs, rfl, hxs⟩ := ints_of k cs (fun c hc => h c (List.mem_cons_of_mem _ hc))
    exact ⟨x :: xs, rfl, by simpa using ⟨hx, hxs⟩⟩
theorem open_ints {H : Type} {enc : TypeId × Value → H} {P : Program} {W : World} {base : Nat} {sp : Nat → Bool} {held : Bool} {r : Reach} {b0 : Nat} {T E : TypeId} {n : Nat} {k : IntKind} {v : Value} {d : DataW H} {p : List MemPlace}
    (hs : P.underlying T = some (.array n E)) (hC : P.cellsOf T = n) (hc : P.cellsOf E = 1) (hE : P.underlying E = some (.int k))
    (hv : Value.okWide P W r b0 T v) (h : DataW.Trod enc P W base sp held T v d p) : ∃ xs : List Int, xs.length = n ∧ v = .agg (xs.map (.int k)).toArray ∧ ∀ x ∈ xs, (Lit.int k x).wf = true := by
  have hcs : ∃ cs, v = .agg cs ∧ cs.size = P.cellsOf T := by
    simp only [Value.okWide, hs] at hv
    obtain ⟨cs, h1, h2, _⟩ := hv
    exact ⟨cs, h1, h2⟩
  obtain ⟨cs, rfl, hsz⟩ := hcs
  rw [hC] at hsz
  obtain ⟨fuel, hf⟩ := h
  obtain ⟨xs, m, _, _, _, hl, hg⟩ := DataW.trod_array hs hf
  have hall : ∀ c ∈ cs.toList, ∃ x, c = .int k x ∧ (Lit.int k x).wf = true := by
    intro c hcm
    obtain ⟨i, hi, rfl⟩ := List.getElem_of_mem hcm
    have hi' : i < n := by simpa [hsz] using hi
    have k0 := hg i hi'
    have e : ((Value.agg cs).cells.toList.drop (i * P.cellsOf E)).take (P.cellsOf E) = [cs.toList[i]] := by
      rw [hc, Nat.mul_one]
      show (cs.toList.drop i).take 1 = _
      rw [List.drop_eq_getElem_cons hi]
      rfl
    obtain ⟨y, hy⟩ : ∃ y, xs[i]? = some y := ⟨xs[i]'(by omega), List.getElem?_eq_getElem (by omega)⟩
    rw [e, hy] at k0
    obtain ⟨x, e0, _, w0⟩ := DataW.trod_int hE k0
    exact ⟨x, (List.cons.inj e0).1, w0⟩
  obtain ⟨zs, e, hz⟩ := ints_of k _ hall
  refine ⟨zs, ?_, ?_, hz⟩
  · have := congrArg List.length e
    simpa [hsz] using this.symm
  · rw [← e]
theorem open_two32 {H : Type} {enc : TypeId × Value → H} {P : Program} {W : World} {base : Nat} {sp : Nat → Bool} {held : Bool} {r : Reach} {b0 : Nat} {T E : TypeId} {v : Value} {d : DataW H} {p : List MemPlace}
    (hs : P.underlying T = some (.array 2 E)) (hC : P.cellsOf T = 2) (hc : P.cellsOf E = 1) (hE : P.underlying E = some (.int .u32))
    (hv : Value.okWide P W r b0 T v) (h : DataW.Trod enc P W base sp held T v d p) : ∃ x y : UInt32, v = .agg #[.int .u32 (n32 x), .int .u32 (n32 y)] := by
  obtain ⟨xs, hl, rfl, hw⟩ := open_ints hs hC hc hE hv h
  match xs, hl with
  | [a, b], _ =>
    obtain ⟨x, rfl⟩ := word_u32 (hw a (by simp))
    obtain ⟨y, rfl⟩ := word_u32 (hw b (by simp))
    exact ⟨x, y, rfl⟩
theorem word_u8s : ∀ (xs : List Int), (∀ x ∈ xs, (Lit.int .u8 x).wf = true) → ∃ ys : List UInt8, xs = ys.map n8
  | [], _ => ⟨[], rfl⟩
  | x :: xs, h => by
    obtain ⟨y, rfl⟩ := word_u8 (h x (by simp))
    obtain ⟨ys, rfl⟩ := word_u8s xs (fun z hz => h z (by simp [hz]))
    exact ⟨y :: ys, rfl⟩
theorem word_u64s : ∀ (xs : List Int), (∀ x ∈ xs, (Lit.int .u64 x).wf = true) → ∃ ys : List UInt64, xs = ys.map n64
  | [], _ => ⟨[], rfl⟩
  | x :: xs, h => by
    obtain ⟨y, rfl⟩ := word_u64 (h x (by simp))
    obtain ⟨ys, rfl⟩ := word_u64s xs (fun z hz => h z (by simp [hz]))
    exact ⟨y :: ys, rfl⟩
end Fr
end Go.Proofs.Ytpkbdodclkgjpaa

