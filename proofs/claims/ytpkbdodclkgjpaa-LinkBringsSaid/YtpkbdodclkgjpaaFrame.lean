/- From the row's reading of the arguments to the walk's words. No condition. -/
import Derived.Test.YtpkbdodclkgjpaaRows
import Derived.Test.YtpkbdodclkgjpaaGrow
import Derived.WalkKit
import Derived.ProofKit
import Derived.OpenShut
import Derived.ShutString
import Derived.ChangeOld
import Derived.Below
import Derived.LaidMore
import Derived.Stop.Joined
import Derived.Lib.LaidTab
import Derived.Lib.SmallJoins
set_option linter.unusedVariables false
set_option linter.unusedSimpArgs false
namespace Go.Proofs.Ytpkbdodclkgjpaa
open Go Go.RowKit W Go.ChangeShapes Go.WideShapes Go.ChangeAt
namespace Fr
theorem own : ownKnob Try.prog.godebug = none := by kernel_rfl
theorem laidOut : laidOutB Try.prog = true := by kernel_rfl

section
variable {H : Type} {enc : TypeId × Value → H} {P : Program} {W : World} {base : Nat} {sp : Nat → Bool} {held : Bool}
/-- An argument that is a slice of bytes. -/
theorem open_bytes {T E : TypeId} {a : Option Addr} {len cap : Nat} {d : DataW H} {p : List MemPlace} (hT : P.underlying T = some (.slice E)) (hE : P.underlying E = some (.int .u8)) (hC : P.cellsOf E = 1)
    (h : DataW.Trod enc P W base sp held T (.slice a len cap) d p) : ∃ l : List UInt8, len = l.length ∧ l.length ≤ cap ∧ cap ≤ maxLen ∧ RB W W.heap.size a l := by
  obtain ⟨fuel, hf⟩ := h
  rcases open_ints hT hE hC hf with ⟨hcs, _⟩ | ⟨x, l, c, zs, hcs, _, hl, hm, hz, _, hcell, hwz⟩
  · simp [Value.cells] at hcs
    obtain ⟨rfl, rfl, rfl⟩ := hcs
    exact ⟨[], rfl, by simp, by unfold maxLen; omega, RB.nil_⟩
  · simp [Value.cells] at hcs
    obtain ⟨rfl, rfl, rfl⟩ := hcs
    have hzl : len ≤ zs.length := by
      rw [hz]
      split <;> omega
    have hlen : ((zs.take len).map fun z => UInt8.ofNat z.toNat).length = len := by simp; omega
    refine ⟨(zs.take len).map fun z => UInt8.ofNat z.toNat, hlen.symm, by omega, hm, by simp [bvs_length], fun hn => ⟨x, rfl, ?_, ?_⟩⟩
    · have h0 := hcell 0 (by rw [hlen] at hn; omega)
      have := World.block_lt_of_cell? W _ h0
      rwa [block_of_add] at this
    · intro j u hu
      have hj : j < len := by
        have := (List.getElem?_eq_some_iff.1 hu).1
        rw [bvs_length, hlen] at this
        exact this
      have hjz : j < zs.length := by omega
      rw [hcell j hjz, ← hu, bvs_get?]
      have hw := hwz (zs[j]) (List.getElem_mem hjz)
      have hb : 0 ≤ zs[j] ∧ zs[j] ≤ 255 := by
        have := hw
        simp [Lit.wf, IntKind.min, IntKind.max, IntKind.signed, IntKind.bits] at this
        omega
      have e : ((zs.take len).map fun z => UInt8.ofNat z.toNat)[j]? = some (UInt8.ofNat (zs[j]).toNat) := by
        rw [List.getElem?_map, List.getElem?_take, if_pos hj, List.getElem?_eq_getElem hjz]
        rfl
      rw [e]
      have hn : n8 (UInt8.ofNat (zs[j]).toNat) = zs[j] := by
        unfold n8
        rw [UInt8.toNat_ofNat']
        omega
      simp only [Option.map_some, bv, hn]
      simp [List.getD, List.getElem?_eq_getElem hjz]
end
/-- A number that fits its kind, as a machine word. -/
theorem word_u8 {n : Int} (h : (Lit.int .u8 n).wf = true) : ∃ x : UInt8, n = n8 x := by
  have hb : 0 ≤ n ∧ n ≤ 255 := by simp [Lit.wf, IntKind.min, IntKind.max, IntKind.signed, IntKind.bits] at h; omega
  exact ⟨UInt8.ofNat n.toNat, by unfold n8; rw [UInt8.toNat_ofNat']; omega⟩
theorem word_u32 {n : Int} (h : (Lit.int .u32 n).wf = true) : ∃ x : UInt32, n = n32 x := by
  have hb : 0 ≤ n ∧ n ≤ 4294967295 := by simp [Lit.wf, IntKind.min, IntKind.max, IntKind.signed, IntKind.bits] at h; omega
  exact ⟨UInt32.ofNat n.toNat, by unfold n32; rw [UInt32.toNat_ofNat']; omega⟩
theorem word_u64 {n : Int} (h : (Lit.int .u64 n).wf = true) : ∃ x : UInt64, n = n64 x := by
  have hb : 0 ≤ n ∧ n ≤ 18446744073709551615 := by simp [Lit.wf, IntKind.min, IntKind.max, IntKind.signed, IntKind.bits] at h; omega
  exact ⟨UInt64.ofNat n.toNat, by unfold n64; rw [UInt64.toNat_ofNat']; omega⟩
theorem int_bounds {n : Int} (h : (Lit.int .i64 n).wf = true) : -9223372036854775808 ≤ n ∧ n ≤ 9223372036854775807 := by
  simp [Lit.wf, IntKind.min, IntKind.max, IntKind.signed, IntKind.bits] at h
  omega
/-- An argument that is a slice of words. -/
theorem open_words {H : Type} {enc : TypeId × Value → H} {P : Program} {W : World} {base : Nat} {sp : Nat → Bool} {held : Bool} {T E : TypeId} {a : Option Addr} {len cap : Nat} {d : DataW H} {p : List MemPlace}
    (hT : P.underlying T = some (.slice E)) (hE : P.underlying E = some (.int .u64)) (hC : P.cellsOf E = 1)
    (h : DataW.Trod enc P W base sp held T (.slice a len cap) d p) : ∃ l : List UInt64, len = l.length ∧ l.length ≤ cap ∧ cap ≤ maxLen ∧ Reads W W.heap.size 1 a l.length (l.map fun x => .int .u64 (n64 x)) := by
  obtain ⟨fuel, hf⟩ := h
  rcases open_ints hT hE hC hf with ⟨hcs, _⟩ | ⟨x, l, c, zs, hcs, _, hl, hm, hz, _, hcell, hwz⟩
  · simp [Value.cells] at hcs
    obtain ⟨rfl, rfl, rfl⟩ := hcs
    exact ⟨[], rfl, by simp, by unfold maxLen; omega, Reads.none_⟩
  · simp [Value.cells] at hcs
    obtain ⟨rfl, rfl, rfl⟩ := hcs
    have hzl : len ≤ zs.length := by
      rw [hz]
      split <;> omega
    have hlen : ((zs.take len).map fun z => UInt64.ofNat z.toNat).length = len := by simp; omega
    refine ⟨(zs.take len).map fun z => UInt64.ofNat z.toNat, hlen.symm, by omega, hm, by simp, fun hn => ⟨x, rfl, ?_, ?_⟩⟩
    · have h0 := hcell 0 (by rw [hlen] at hn; omega)
      have := World.block_lt_of_cell? W _ h0
      rwa [block_of_add] at this
    · intro j u hu
      have hj : j < len := by
        have := (List.getElem?_eq_some_iff.1 hu).1
        rw [List.length_map, hlen] at this
        exact this
      have hjz : j < zs.length := by omega
      rw [hcell j hjz, ← hu, List.getElem?_map]
      obtain ⟨x, hx⟩ := word_u64 (hwz (zs[j]) (List.getElem_mem hjz))
      have e : ((zs.take len).map fun z => UInt64.ofNat z.toNat)[j]? = some (UInt64.ofNat (zs[j]).toNat) := by
        rw [List.getElem?_map, List.getElem?_take, if_pos hj, List.getElem?_eq_getElem hjz]
        rfl
      rw [e]
      have hn : n64 (UInt64.ofNat (zs[j]).toNat) = zs[j] := by
        rw [hx]
        unfold n64
        simp
      simp only [Option.map_some, hn]
      simp [List.getD, List.getElem?_eq_getElem hjz]
/-- An argument that is a slice of byte slices. -/
theorem open_bytess {H : Type} {enc : TypeId × Value → H} {P : Program} {W : World} {base : Nat} {sp : Nat → Bool} {held : Bool} {T E U : TypeId} {a : Option Addr} {len cap : Nat} {d : DataW H} {p : List MemPlace}
    (hT : P.underlying T = some (.slice E)) (hE : P.underlying E = some (.slice U)) (hU : P.underlying U = some (.int .u8)) (hC : P.cellsOf E = 1) (hC2 : P.cellsOf U = 1)
    (h : DataW.Trod enc P W base sp held T (.slice a len cap) d p) : ∃ ls : List (List UInt8), len = ls.length ∧ ls.length ≤ cap ∧ cap ≤ maxLen ∧
      ∀ i (h : i < ls.length), ∃ ad A c, a = some ad ∧ ad.block < W.heap.size ∧ W.cell? (ad.add i) = some (.slice A ls[i].length c) ∧ ls[i].length ≤ c ∧ c ≤ maxLen ∧ RB W W.heap.size A ls[i] := by
  obtain ⟨fuel, hf⟩ := h
  rcases Deep.open_slice1 hT hC hf with ⟨hcs, _⟩ | ⟨x, l, c, m, n, V, D, Pl, hcs, _, hl, hm, hmm, _, hcell⟩
  · simp [Value.cells] at hcs
    obtain ⟨rfl, rfl, rfl⟩ := hcs
    exact ⟨[], rfl, by simp, by unfold maxLen; omega, fun i hi => absurd hi (by simp)⟩
  · simp [Value.cells] at hcs
    obtain ⟨rfl, rfl, rfl⟩ := hcs
    have hzl : len ≤ m := by
      rw [hmm]
      split <;> omega
    obtain ⟨L, hL⟩ := Deep.choose_lt (n := len) (p := fun i (lv : List UInt8) => ∃ A c, W.cell? (x.add i) = some (.slice A lv.length c) ∧ lv.length ≤ c ∧ c ≤ maxLen ∧ RB W W.heap.size A lv) (fun i hi => by
      obtain ⟨h1, h2⟩ := hcell i (by omega)
      obtain ⟨A, k, c, hv⟩ : ∃ A k c, V i = .slice A k c := by
        rcases Deep.open_slice hE h2 with ⟨hq, _⟩ | ⟨a', k, c, _, _, _, _, hq, _⟩
        · exact ⟨_, _, _, List.cons.inj hq |>.1⟩
        · exact ⟨_, _, _, List.cons.inj hq |>.1⟩
      rw [hv] at h1 h2
      obtain ⟨lv, rfl, q1, q2, q3⟩ := open_bytes hE hU hC2 ⟨n, by simpa [Value.cells] using h2⟩
      exact ⟨lv, A, c, h1, q1, q2, q3⟩)
    have hlen : ((List.range len).map L).length = len := by simp
    refine ⟨(List.range len).map L, hlen.symm, by omega, hm, fun i hi => ?_⟩
    rw [hlen] at hi
    obtain ⟨A, c, h1, h2, h3, h4⟩ := hL i hi
    have e : ((List.range len).map L)[i]'(by omega) = L i := by simp
    refine ⟨x, A, c, rfl, ?_, by rw [e]; exact h1, by rw [e]; exact h2, h3, by rw [e]; exact h4⟩
    have := World.block_lt_of_cell? W _ h1
    rwa [block_of_add] at this
/-- A struct of two words, by value. -/
theorem open_pair64 {H : Type} {enc : TypeId × Value → H} {P : Program} {W : World} {base : Nat} {sp : Nat → Bool} {held : Bool} {r : Reach} {b0 : Nat} {T E : TypeId} {f0 f1 : Field} {v : Value} {d : DataW H} {p : List MemPlace}
    (hs : P.underlying T = some (.struct #[f0, f1])) (hone : Go.Deep.oneCellFields P #[f0, f1] = true) (hC : P.cellsOf T = 2) (h0 : f0.type = E) (h1 : f1.type = E) (hE : P.underlying E = some (.int .u64))
    (hv : Value.okWide P W r b0 T v) (h : DataW.Trod enc P W base sp held T v d p) : ∃ x y : UInt64, v = .agg #[.int .u64 (n64 x), .int .u64 (n64 y)] := by
  obtain ⟨v0, v1, y0, y1, n, rfl, _, _, k0, k1⟩ := Joins.open_agg2 hs hone hC hv h
  rw [h0] at k0
  rw [h1] at k1
  obtain ⟨m0, e0, _, w0⟩ := DataW.trod_int hE k0
  obtain ⟨m1, e1, _, w1⟩ := DataW.trod_int hE k1
  obtain ⟨z0, rfl⟩ := word_u64 w0
  obtain ⟨z1, rfl⟩ := word_u64 w1
  obtain rfl : v0 = _ := List.cons.inj e0 |>.1
  obtain rfl : v1 = _ := List.cons.inj e1 |>.1
  exact ⟨z0, z1, rfl⟩
/-- An array of two words, by value. -/
theorem open_arr64 {H : Type} {enc : TypeId × Value → H} {P : Program} {W : World} {base : Nat} {sp : Nat → Bool} {held : Bool} {r : Reach} {b0 : Nat} {T E : TypeId} {v : Value} {d : DataW H} {p : List MemPlace}
    (hs : P.underlying T = some (.array 2 E)) (hC : P.cellsOf T = 2) (hc : P.cellsOf E = 1) (hE : P.underlying E = some (.int .u64))
    (hv : Value.okWide P W r b0 T v) (h : DataW.Trod enc P W base sp held T v d p) : ∃ x y : UInt64, v = .agg #[.int .u64 (n64 x), .int .u64 (n64 y)] := by
  have hcs : ∃ cs, v = .agg cs ∧ cs.size = P.cellsOf T := by
    simp only [Value.okWide, hs] at hv
    obtain ⟨cs, h1, h2, _⟩ := hv
    exact ⟨cs, h1, h2⟩
  obtain ⟨cs, rfl, hsz⟩ := hcs
  obtain ⟨c0, c1, rfl⟩ := Joins.array2 (hsz.trans hC)
  obtain ⟨fuel, hf⟩ := h
  obtain ⟨xs, m, _, _, _, hl, hg⟩ := DataW.trod_array hs hf
  match xs, hl with
  | [y0, y1], _ =>
    have k0 : DataW.trod enc P W base sp held m E [c0] = some y0 := by simpa [Value.cells, hc] using hg 0 (by omega)
    have k1 : DataW.trod enc P W base sp held m E [c1] = some y1 := by simpa [Value.cells, hc] using hg 1 (by omega)
    obtain ⟨m0, e0, _, w0⟩ := DataW.trod_int hE k0
    obtain ⟨m1, e1, _, w1⟩ := DataW.trod_int hE k1
    obtain ⟨z0, rfl⟩ := word_u64 w0
    obtain ⟨z1, rfl⟩ := word_u64 w1
    obtain rfl : c0 = _ := List.cons.inj e0 |>.1
    obtain rfl : c1 = _ := List.cons.inj e1 |>.1
    exact ⟨z0, z1, rfl⟩
/-- An array of two numbers, by value. -/
theorem open_arrI {H : Type} {enc : TypeId × Value → H} {P : Program} {W : World} {base : Nat} {sp : Nat → Bool} {held : Bool} {r : Reach} {b0 : Nat} {T E : TypeId} {v : Value} {d : DataW H} {p : List MemPlace}
    (hs : P.underlying T = some (.array 2 E)) (hC : P.cellsOf T = 2) (hc : P.cellsOf E = 1) (hE : P.underlying E = some (.int .i64))
    (hv : Value.okWide P W r b0 T v) (h : DataW.Trod enc P W base sp held T v d p) : ∃ x y : Int, v = .agg #[.int .i64 x, .int .i64 y] := by
  have hcs : ∃ cs, v = .agg cs ∧ cs.size = P.cellsOf T := by
    simp only [Value.okWide, hs] at hv
    obtain ⟨cs, h1, h2, _⟩ := hv
    exact ⟨cs, h1, h2⟩
  obtain ⟨cs, rfl, hsz⟩ := hcs
  obtain ⟨c0, c1, rfl⟩ := Joins.array2 (hsz.trans hC)
  obtain ⟨fuel, hf⟩ := h
  obtain ⟨xs, m, _, _, _, hl, hg⟩ := DataW.trod_array hs hf
  match xs, hl with
  | [y0, y1], _ =>
    have k0 : DataW.trod enc P W base sp held m E [c0] = some y0 := by simpa [Value.cells, hc] using hg 0 (by omega)
    have k1 : DataW.trod enc P W base sp held m E [c1] = some y1 := by simpa [Value.cells, hc] using hg 1 (by omega)
    obtain ⟨m0, e0, _, w0⟩ := DataW.trod_int hE k0
    obtain ⟨m1, e1, _, w1⟩ := DataW.trod_int hE k1
    obtain rfl : c0 = _ := List.cons.inj e0 |>.1
    obtain rfl : c1 = _ := List.cons.inj e1 |>.1
    exact ⟨_, _, rfl⟩
end Fr
end Go.Proofs.Ytpkbdodclkgjpaa

