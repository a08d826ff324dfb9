/-
  No cell of these rows narrows 'for every input' (looked for: loops, veiled, ifaces, maps, wideKeys, modest, calm, conditions, laid).
  DERIVED. THE GIVEN ROWS OF THIS SEAT. 4 by the template 'for every input the law returns true; each argument reads behind the call as it read before'; 0 by the template 'total and deterministic' (their statements: YtcibngbgcnnjnaaTotals.lean).
  GIVEN WITH THE SEED: the statements are not yours to turn. If you find one false, say at which input.
  Laid BY PROGRAM, IN A SANDBOX (cutbox-rows.mjs): the forced cells as the released guide's own fill.sh prints them over the translation 73a9dd7efece458b… (all of the seat's roots in one cut). By AI agents, Wed Nov 11 2026. No macro, syntax, notation, axiom, sorry.
-/
import Derived.Test.YtcibngbgcnnjnaaChecked
import GoSem.Claim
import GoSem.ClaimJoined
import GoSem.ClaimMapViews
import Derived.JoinedTies
import Derived.KernelRfl
namespace Go.Proofs.Ytcibngbgcnnjnaa
/- THE CELL 'sum', in the pinned program and in every row, IS THE sha256 OF THE DUMP (.gsa) THAT YtcibngbgcnnjnaaProg.lean LOADS. Nothing in Lean hashes anything: it is a label: what it is worth is what the hold of that sum in a sandbox is worth. -/
noncomputable def Try.pinned : Pinned := { name := "ytcibngbgcnnjnaa", sum := "73a9dd7efece458b4e44e7e39066f681f48565ce0e4f9bf398709c0122878851", checked := Try.checked }
namespace Rows
def none {H : Type} : Left H := { results := [], args := [] }

/-- 'flittinglaw15.BlockCounts': WHATEVER THE INPUT: true; the input reads as it did. -/
def blockCountsSpec : ChangeSpec := { name := "blockCounts", fn := fun _ => fun
  | [d1, d2] => { results := [.lit (.bool true)], args := [d1, d2] }
  | _ => none }
def blockCountsRow : OpenClaim := { program := "ytcibngbgcnnjnaa", sum := "73a9dd7efece458b4e44e7e39066f681f48565ce0e4f9bf398709c0122878851", func := "flitting/flittinglaw15.BlockCounts", spec := "blockCounts", unfollowed := true, recurses := true, apart := false }
def BlockCountsSaid : Prop := blockCountsRow.holds Try.pinned (OpenSpec.ofChange blockCountsSpec)

/-- ITS FALSE NEIGHBOUR: 'it returns false'. Refute it at one input. -/
def blockCountsWrong : ChangeSpec := { name := "blockCounts", fn := fun _ => fun
  | [d1, d2] => { results := [.lit (.bool false)], args := [d1, d2] }
  | _ => none }
def BlockCountsWrongFalsely : Prop := blockCountsRow.holds Try.pinned (OpenSpec.ofChange blockCountsWrong)

/-- 'flittinglaw15.BlockOf': WHATEVER THE INPUT: true; the input reads as it did. -/
def blockOfSpec : ChangeSpec := { name := "blockOf", fn := fun _ => fun
  | [d1, d2, d3] => { results := [.lit (.bool true)], args := [d1, d2, d3] }
  | _ => none }
def blockOfRow : OpenClaim := { program := "ytcibngbgcnnjnaa", sum := "73a9dd7efece458b4e44e7e39066f681f48565ce0e4f9bf398709c0122878851", func := "flitting/flittinglaw15.BlockOf", spec := "blockOf", unfollowed := true, recurses := true, apart := false }
def BlockOfSaid : Prop := blockOfRow.holds Try.pinned (OpenSpec.ofChange blockOfSpec)

/-- ITS FALSE NEIGHBOUR: 'it returns false'. Refute it at one input. -/
def blockOfWrong : ChangeSpec := { name := "blockOf", fn := fun _ => fun
  | [d1, d2, d3] => { results := [.lit (.bool false)], args := [d1, d2, d3] }
  | _ => none }
def BlockOfWrongFalsely : Prop := blockOfRow.holds Try.pinned (OpenSpec.ofChange blockOfWrong)

/-- 'flittinglaw15.BlockGets': WHATEVER THE INPUT: true; the input reads as it did. -/
def blockGetsSpec : ChangeSpec := { name := "blockGets", fn := fun _ => fun
  | [d] => { results := [.lit (.bool true)], args := [d] }
  | _ => none }
def blockGetsRow : OpenClaim := { program := "ytcibngbgcnnjnaa", sum := "73a9dd7efece458b4e44e7e39066f681f48565ce0e4f9bf398709c0122878851", func := "flitting/flittinglaw15.BlockGets", spec := "blockGets", unfollowed := true, recurses := true, apart := false }
def BlockGetsSaid : Prop := blockGetsRow.holds Try.pinned (OpenSpec.ofChange blockGetsSpec)

/-- ITS FALSE NEIGHBOUR: 'it returns false'. Refute it at one input. -/
def blockGetsWrong : ChangeSpec := { name := "blockGets", fn := fun _ => fun
  | [d] => { results := [.lit (.bool false)], args := [d] }
  | _ => none }
def BlockGetsWrongFalsely : Prop := blockGetsRow.holds Try.pinned (OpenSpec.ofChange blockGetsWrong)

/-- 'flittinglaw15.BlockPuts': WHATEVER THE INPUT: true; the input reads as it did. -/
def blockPutsSpec : ChangeSpec := { name := "blockPuts", fn := fun _ => fun
  | [d1, d2] => { results := [.lit (.bool true)], args := [d1, d2] }
  | _ => none }
def blockPutsRow : OpenClaim := { program := "ytcibngbgcnnjnaa", sum := "73a9dd7efece458b4e44e7e39066f681f48565ce0e4f9bf398709c0122878851", func := "flitting/flittinglaw15.BlockPuts", spec := "blockPuts", unfollowed := true, recurses := true, apart := false }
def BlockPutsSaid : Prop := blockPutsRow.holds Try.pinned (OpenSpec.ofChange blockPutsSpec)

/-- ITS FALSE NEIGHBOUR: 'it returns false'. Refute it at one input. -/
def blockPutsWrong : ChangeSpec := { name := "blockPuts", fn := fun _ => fun
  | [d1, d2] => { results := [.lit (.bool false)], args := [d1, d2] }
  | _ => none }
def BlockPutsWrongFalsely : Prop := blockPutsRow.holds Try.pinned (OpenSpec.ofChange blockPutsWrong)

/- THE SECOND FORM. 'bulk': how many values and letters a reading holds, each counted each time it is reached (what is shared counts as often as it is met; a slice's spare places count too). A statement '..UptoSaid' is the law's where the arguments, and the package variables that the reading takes, are together of bulk at most 1048576: NARROWER than '..Said'. Prove '..Said' where nothing that the law and all that it calls make is longer than what came in: it says more and counts as full. Else prove '..UptoSaid'. A law counts once. -/
mutual
def uptoBulk {H : Type} : DataW H → Nat
  | .lit (.string bytes) => bytes.length + 1
  | .lit _ => 1
  | .nil => 1
  | .ptr d => uptoBulk d + 1
  | .slice elems spare => uptoBulkAll elems + uptoBulkAll spare + 1
  | .agg parts => uptoBulkAll parts + 1
  | .iface _ d => uptoBulk d + 1
  | .map entries => uptoBulkEntries entries + 1
  | .held _ => 1
def uptoBulkAll {H : Type} : List (DataW H) → Nat
  | [] => 0
  | d :: r => uptoBulk d + uptoBulkAll r
def uptoBulkEntries {H : Type} : List (Lit × DataW H) → Nat
  | [] => 0
  | x :: r => uptoBulkEntry x + uptoBulkEntries r
def uptoBulkEntry {H : Type} : Lit × DataW H → Nat
  | (.string bytes, d) => bytes.length + uptoBulk d + 1
  | (_, d) => uptoBulk d + 1
 end
def uptoSmall : (H : Type) → List (DataW H) → Bool := fun _ ds => decide (uptoBulkAll ds ≤ 1048576)
def OpenSpec.upto (s : _root_.Go.ChangeSpec) : _root_.Go.OpenSpec := { _root_.Go.OpenSpec.ofChange s with cond := some uptoSmall }

/-- 'flittinglaw15.BlockCounts', WHERE WHAT IT READS IS OF BULK AT MOST 1048576: true; the input reads as it did. -/
def blockCountsUptoRow : OpenClaim := { program := "ytcibngbgcnnjnaa", sum := "73a9dd7efece458b4e44e7e39066f681f48565ce0e4f9bf398709c0122878851", func := "flitting/flittinglaw15.BlockCounts", spec := "blockCounts", unfollowed := true, recurses := true, apart := false, narrowed := true }
def BlockCountsUptoSaid : Prop := blockCountsUptoRow.holds Try.pinned (OpenSpec.upto blockCountsSpec)

/-- 'flittinglaw15.BlockOf', WHERE WHAT IT READS IS OF BULK AT MOST 1048576: true; the input reads as it did. -/
def blockOfUptoRow : OpenClaim := { program := "ytcibngbgcnnjnaa", sum := "73a9dd7efece458b4e44e7e39066f681f48565ce0e4f9bf398709c0122878851", func := "flitting/flittinglaw15.BlockOf", spec := "blockOf", unfollowed := true, recurses := true, apart := false, narrowed := true }
def BlockOfUptoSaid : Prop := blockOfUptoRow.holds Try.pinned (OpenSpec.upto blockOfSpec)

/-- 'flittinglaw15.BlockGets', WHERE WHAT IT READS IS OF BULK AT MOST 1048576: true; the input reads as it did. -/
def blockGetsUptoRow : OpenClaim := { program := "ytcibngbgcnnjnaa", sum := "73a9dd7efece458b4e44e7e39066f681f48565ce0e4f9bf398709c0122878851", func := "flitting/flittinglaw15.BlockGets", spec := "blockGets", unfollowed := true, recurses := true, apart := false, narrowed := true }
def BlockGetsUptoSaid : Prop := blockGetsUptoRow.holds Try.pinned (OpenSpec.upto blockGetsSpec)

/-- 'flittinglaw15.BlockPuts', WHERE WHAT IT READS IS OF BULK AT MOST 1048576: true; the input reads as it did. -/
def blockPutsUptoRow : OpenClaim := { program := "ytcibngbgcnnjnaa", sum := "73a9dd7efece458b4e44e7e39066f681f48565ce0e4f9bf398709c0122878851", func := "flitting/flittinglaw15.BlockPuts", spec := "blockPuts", unfollowed := true, recurses := true, apart := false, narrowed := true }
def BlockPutsUptoSaid : Prop := blockPutsUptoRow.holds Try.pinned (OpenSpec.upto blockPutsSpec)

end Rows
end Go.Proofs.Ytcibngbgcnnjnaa
