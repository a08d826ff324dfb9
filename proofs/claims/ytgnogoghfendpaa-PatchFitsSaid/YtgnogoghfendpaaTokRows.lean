/- Slices of tokens, as they lie. No condition. -/
import Derived.Test.YtgnogoghfendpaaTokPut
import Derived.Test.YtgnogoghfendpaaGrowC
set_option linter.unusedVariables false
set_option linter.unusedSimpArgs false
namespace Go.Proofs.Ytgnogoghfendpaa
open Go Go.RowKit W
namespace Tk
theorem tc_len (t : Tok) : (tc t).length = 3 := rfl
def tcs (l : List Tok) : List Value := l.flatMap tc
theorem tcs_len (l : List Tok) : (tcs l).length = l.length * 3 := flat_len tc 3 tc_len l
theorem tcs_append (a b : List Tok) : tcs (a ++ b) = tcs a ++ tcs b := by simp [tcs]
theorem tcs_one (t : Tok) : tcs [t] = tc t := by simp [tcs]
theorem tcs_one_cell (l : List Tok) : ∀ u ∈ tcs l, u.oneCell' = true := by
  intro u hu
  obtain ⟨t, _, h⟩ := List.mem_flatMap.1 hu
  simp [tc] at h
  rcases h with rfl | rfl | rfl <;> rfl
/-- A slice that reads as tokens. -/
def TR (w : World) (B : Nat) (A : Option Addr) (l : List Tok) : Prop := Reads w B 3 A l.length (tcs l)
theorem TR.at_ {w : World} {B : Nat} {A : Option Addr} {l : List Tok} (h : TR w B A l) {k : Nat} (hk : k < l.length) : ∃ ad, A = some ad ∧ ad.block < B ∧ w.cell? (ad.add (k * 3)) = some (.int .i64 (l[k]).f) ∧
    w.cell? ⟨(ad.add (k * 3)).block, (ad.add (k * 3)).off + 1, none⟩ = some (.int .i64 (l[k]).m) ∧ w.cell? ⟨(ad.add (k * 3)).block, (ad.add (k * 3)).off + 2, none⟩ = some (.string ⟨(l[k]).d.toArray⟩) := by
  obtain ⟨ad, h1, h2, h3, h4⟩ := Reads.row tc_len rfl h hk (by omega)
  exact ⟨ad, h1, h2, h3 _ rfl, h4 1 _ (by omega) (by omega) rfl, h4 2 _ (by omega) (by omega) rfl⟩
theorem TR.below {w w' : World} {B : Nat} {A : Option Addr} {l : List Tok} (h : TR w B A l) (hb : Below B w w') : TR w' B A l := Reads.below h hb
theorem TR.more {w : World} {B B' : Nat} {A : Option Addr} {l : List Tok} (h : TR w B A l) (hB : B ≤ B') : TR w B' A l := Reads.more h hB
/-- An own slice of tokens. -/
def OT (E : TypeId) (w : World) (base : Nat) (v : Value) (l : List Tok) : Prop := OR E 3 w base v l.length (tcs l)
theorem OT.nil_ (E : TypeId) (w : World) (base : Nat) : OT E w base (.slice none 0 0) [] := World.ownsRow_nil _ _ _ _
theorem OT.tr {E : TypeId} {w : World} {base c : Nat} {A : Option Addr} {l : List Tok} (h : OT E w base (.slice A l.length c) l) : TR w w.heap.size A l := OR.reads h
theorem OT.below {E : TypeId} {w w' : World} {base : Nat} {v : Value} {l : List Tok} (h : OT E w base v l) (hb : Below w.heap.size w w') : OT E w' base v l := OR.below h hb
theorem OT.alloc {E : TypeId} {w : World} {base : Nat} {v : Value} {l : List Tok} (h : OT E w base v l) (o : Obj) : OT E (w.alloc o) base v l := World.ownsRow.alloc h o
theorem OT.shape {E : TypeId} {w : World} {base : Nat} {v : Value} {l : List Tok} (h : OT E w base v l) : ∃ A c, v = .slice A l.length c ∧ l.length ≤ c ∧ c ≤ maxLen := OR.shape h
theorem tokRow : RowType Try.prog 35 3 32 := by
  obtain ⟨i, h1, h2, h3, h4⟩ := info_parts (show (Try.prog.info? 35).map (fun i => (i.zero, i.size, i.bytes)) = some (some (.agg #[.int .i64 0, .int .i64 0, .string ⟨#[]⟩]), 3, 32) by kernel_rfl)
  exact ⟨i, _, h1, h2, h3, h4, rfl, by omega⟩
/-- One token in a new block. -/
theorem TR.new1 (w : World) (t : TypeId) (x : Tok) : TR (w.alloc (.cells #[.int .i64 x.f, .int .i64 x.m, .string ⟨x.d.toArray⟩] t)) (w.heap.size + 1) (some ⟨w.heap.size, 0, none⟩) [x] := by
  refine ⟨rfl, fun _ => ⟨_, rfl, Nat.lt_succ_self _, fun j u hu => ?_⟩⟩
  have ha : (⟨w.heap.size, 0, none⟩ : Addr).add j = ⟨w.heap.size, j, none⟩ := by unfold Addr.add; split <;> simp_all
  rw [ha, (Blk.new w t _).cell]
  rw [tcs_one] at hu
  simpa [tc] using hu
/-- The last one turned into another. -/
theorem OT.set3 {E : TypeId} {w : World} {base g c : Nat} {o : List Tok} {a b : Tok} (h : OT E w base (.slice (some ⟨g, 0, none⟩) (o.length + 1) c) (o ++ [a])) :
    OT E (((w.setCell ⟨g, o.length * 3, none⟩ (.int .i64 b.f)).setCell ⟨g, o.length * 3 + 1, none⟩ (.int .i64 b.m)).setCell ⟨g, o.length * 3 + 2, none⟩ (.string ⟨b.d.toArray⟩)) base (.slice (some ⟨g, 0, none⟩) (o.length + 1) c) (o ++ [b]) := by
  have hl : ∀ x : Tok, (o ++ [x]).length = o.length + 1 := fun x => by simp
  unfold OT OR at h ⊢
  rw [hl] at h ⊢
  have h1 := (World.ownsRow.stored h (o.length * 3) (.int .i64 b.f)).1
  have h2 := (World.ownsRow.stored h1 (o.length * 3 + 1) (.int .i64 b.m)).1
  have h3 := (World.ownsRow.stored h2 (o.length * 3 + 2) (.string ⟨b.d.toArray⟩)).1
  have e : (((tcs (o ++ [a])).set (o.length * 3) (.int .i64 b.f)).set (o.length * 3 + 1) (.int .i64 b.m)).set (o.length * 3 + 2) (.string ⟨b.d.toArray⟩) = tcs (o ++ [b]) := by
    rw [tcs_append, tcs_append, tcs_one, tcs_one, ← tcs_len]
    rw [List.set_append_right _ _ (by omega), List.set_append_right _ _ (by omega), List.set_append_right _ _ (by omega)]
    simp [tc]
  rw [e] at h3
  exact h3
end Tk
end Go.Proofs.Ytgnogoghfendpaa

