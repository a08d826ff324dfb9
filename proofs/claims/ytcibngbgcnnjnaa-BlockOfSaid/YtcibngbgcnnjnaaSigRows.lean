/- Signs and signatures, as they lie. No condition. -/
import Derived.Test.YtcibngbgcnnjnaaSigSpec
import Derived.Test.YtcibngbgcnnjnaaMemB
import Derived.Test.YtcibngbgcnnjnaaGrowM
import Derived.Test.YtcibngbgcnnjnaaOwnRows
import Derived.Test.YtcibngbgcnnjnaaGrowC
import Derived.Test.YtcibngbgcnnjnaaMixSum
import Derived.Test.YtcibngbgcnnjnaaChecked
set_option linter.unusedVariables false
set_option linter.unusedSimpArgs false
namespace Go.Proofs.Ytcibngbgcnnjnaa
open Go Go.RowKit W
namespace Sg
def sc (x : Sign) : List Value := [.int .u32 (n32 x.1), .int .u64 (n64 x.2.1), .int .u64 (n64 x.2.2)]
abbrev sV (x : Sign) : Value := .agg #[.int .u32 (n32 x.1), .int .u64 (n64 x.2.1), .int .u64 (n64 x.2.2)]
theorem sc_len (t : Sign) : (sc t).length = 3 := rfl
def scs (l : List Sign) : List Value := l.flatMap sc
theorem scs_len (l : List Sign) : (scs l).length = l.length * 3 := flat_len sc 3 sc_len l
theorem scs_append (a b : List Sign) : scs (a ++ b) = scs a ++ scs b := by simp [scs]
theorem scs_one (t : Sign) : scs [t] = sc t := by simp [scs]
theorem scs_one_cell (l : List Sign) : ∀ u ∈ scs l, u.oneCell' = true := by
  intro u hu
  obtain ⟨t, _, h⟩ := List.mem_flatMap.1 hu
  simp [sc] at h
  rcases h with rfl | rfl | rfl <;> rfl
theorem scs_take (l : List Sign) (k : Nat) (h : k < l.length) : scs (l.take (k + 1)) = scs (l.take k) ++ scs [l[k]] := by
  rw [List.take_succ_eq_append_getElem h, scs_append]
/-- A slice that reads as signs. -/
def SR (w : World) (B : Nat) (A : Option Addr) (l : List Sign) : Prop := Reads w B 3 A l.length (scs l)
theorem SR.at_ {w : World} {B : Nat} {A : Option Addr} {l : List Sign} (h : SR w B A l) {k : Nat} (hk : k < l.length) : ∃ ad, A = some ad ∧ ad.block < B ∧ w.cell? (ad.add (k * 3)) = some (.int .u32 (n32 (l[k]).1)) ∧
    w.cell? ⟨(ad.add (k * 3)).block, (ad.add (k * 3)).off + 1, none⟩ = some (.int .u64 (n64 (l[k]).2.1)) ∧ w.cell? ⟨(ad.add (k * 3)).block, (ad.add (k * 3)).off + 2, none⟩ = some (.int .u64 (n64 (l[k]).2.2)) := by
  obtain ⟨ad, h1, h2, h3, h4⟩ := Reads.row sc_len rfl h hk (by omega)
  exact ⟨ad, h1, h2, h3 _ rfl, h4 1 _ (by omega) (by omega) rfl, h4 2 _ (by omega) (by omega) rfl⟩
theorem SR.below {w w' : World} {B : Nat} {A : Option Addr} {l : List Sign} (h : SR w B A l) (hb : Below B w w') : SR w' B A l := Reads.below h hb
theorem SR.more {w : World} {B B' : Nat} {A : Option Addr} {l : List Sign} (h : SR w B A l) (hB : B ≤ B') : SR w B' A l := Reads.more h hB
/-- An own slice of signs. -/
def OS (E : TypeId) (w : World) (base : Nat) (v : Value) (l : List Sign) : Prop := OR E 3 w base v l.length (scs l)
theorem OS.nil_ (E : TypeId) (w : World) (base : Nat) : OS E w base (.slice none 0 0) [] := World.ownsRow_nil _ _ _ _
theorem OS.sr {E : TypeId} {w : World} {base c : Nat} {A : Option Addr} {l : List Sign} (h : OS E w base (.slice A l.length c) l) : SR w w.heap.size A l := OR.reads h
theorem OS.below {E : TypeId} {w w' : World} {base : Nat} {v : Value} {l : List Sign} (h : OS E w base v l) (hb : Below w.heap.size w w') : OS E w' base v l := OR.below h hb
theorem OS.alloc {E : TypeId} {w : World} {base : Nat} {v : Value} {l : List Sign} (h : OS E w base v l) (o : Obj) : OS E (w.alloc o) base v l := World.ownsRow.alloc h o
theorem OS.shape {E : TypeId} {w : World} {base : Nat} {v : Value} {l : List Sign} (h : OS E w base v l) : ∃ A c, v = .slice A l.length c ∧ l.length ≤ c ∧ c ≤ maxLen := OR.shape h
theorem signRow : RowType Try.prog 33 3 24 := by
  obtain ⟨i, h1, h2, h3, h4⟩ := info_parts (show (Try.prog.info? 33).map (fun i => (i.zero, i.size, i.bytes)) = some (some (.agg #[.int .u32 0, .int .u64 0, .int .u64 0]), 3, 24) by kernel_rfl)
  exact ⟨i, _, h1, h2, h3, h4, rfl, by omega⟩
theorem refSignRow : RowType Try.prog 40 3 24 := by
  obtain ⟨i, h1, h2, h3, h4⟩ := info_parts (show (Try.prog.info? 40).map (fun i => (i.zero, i.size, i.bytes)) = some (some (.agg #[.int .u32 0, .int .u64 0, .int .u64 0]), 3, 24) by kernel_rfl)
  exact ⟨i, _, h1, h2, h3, h4, rfl, by omega⟩
theorem signInfo (a b c : Value) : (Try.prog.info? 33).map (·.size) = some (#[a, b, c] : Array Value).size := by kernel_rfl
theorem refSignInfo (a b c : Value) : (Try.prog.info? 40).map (·.size) = some (#[a, b, c] : Array Value).size := by kernel_rfl
theorem sigInfo (a b c d e f : Value) : (Try.prog.info? 35).map (·.size) = some (#[a, b, c, d, e, f] : Array Value).size := by kernel_rfl
theorem refSigInfo (a b c d e f : Value) : (Try.prog.info? 45).map (·.size) = some (#[a, b, c, d, e, f] : Array Value).size := by kernel_rfl
/-- One sign in a new block. -/
theorem SR.new1 (w : World) (t : TypeId) (x : Sign) : SR (w.alloc (.cells #[.int .u32 (n32 x.1), .int .u64 (n64 x.2.1), .int .u64 (n64 x.2.2)] t)) (w.heap.size + 1) (some ⟨w.heap.size, 0, none⟩) [x] := by
  refine ⟨rfl, fun _ => ⟨_, rfl, Nat.lt_succ_self _, fun j u hu => ?_⟩⟩
  have ha : (⟨w.heap.size, 0, none⟩ : Addr).add j = ⟨w.heap.size, j, none⟩ := by unfold Addr.add; split <;> simp_all
  rw [ha, (Blk.new w t _).cell]
  rw [scs_one] at hu
  simpa [sc] using hu
/-- The cells of a signature whose blocks are a slice. -/
abbrev sigC (z : Int) (v : Value) (t : Int) (x : Sign) : Array Value := #[.int .i64 z, v, .int .i64 t, .int .u32 (n32 x.1), .int .u64 (n64 x.2.1), .int .u64 (n64 x.2.2)]
abbrev sigV (s : Sig) (A : Option Addr) (c : Nat) : Value := .agg (sigC s.size (.slice A s.bs.length c) s.tail s.last)
theorem keep_new {w a b : World} (h : Gr w a) (k : Kb w.heap.size a b) : Gr w b := Below.trans h (Kb.below k (Below.size h))
theorem keep_at {w a b : World} {n : Nat} (h : Gr w a) (k : Kb n a b) (h1 : w.heap.size ≤ n) (h2 : n ≤ a.heap.size) : Gr w b := Below.trans h ((Kb.below k h2).mono h1)
end Sg
end Go.Proofs.Ytcibngbgcnnjnaa

