/-
  No cell of these rows narrows 'for every input' (looked for: loops, veiled, ifaces, maps, wideKeys, modest, calm, conditions, laid).
  DERIVED. THE GIVEN ROWS OF THIS SEAT. 3 by the template 'for every input the law returns true; each argument reads behind the call as it read before'; 0 by the template 'total and deterministic' (their statements: YtadghiefddjbbaaTotals.lean).
  GIVEN WITH THE SEED: the statements are not yours to turn. If you find one false, say at which input.
  Laid BY PROGRAM, IN A SANDBOX (cutbox-rows.mjs): the forced cells as the released guide's own fill.sh prints them over the translation 42f7afad10558d92… (all of the seat's roots in one cut). By AI agents, Wed Nov 11 2026. No macro, syntax, notation, axiom, sorry.
-/
import Derived.Test.YtadghiefddjbbaaChecked
import GoSem.Claim
import GoSem.ClaimJoined
import GoSem.ClaimMapViews
import Derived.JoinedTies
import Derived.KernelRfl
namespace Go.Proofs.Ytadghiefddjbbaa
/- THE CELL 'sum', in the pinned program and in every row, IS THE sha256 OF THE DUMP (.gsa) THAT YtadghiefddjbbaaProg.lean LOADS. Nothing in Lean hashes anything: it is a label: what it is worth is what the hold of that sum in a sandbox is worth. -/
noncomputable def Try.pinned : Pinned := { name := "ytadghiefddjbbaa", sum := "42f7afad10558d92f045feff8ab96cd7432682bfff1f0610eceeb385f54de0fd", checked := Try.checked }
namespace Rows
def none {H : Type} : Left H := { results := [], args := [] }

/-- 'flittinglaw07.RollSums': WHATEVER THE INPUT: true; the input reads as it did. -/
def rollSumsSpec : ChangeSpec := { name := "rollSums", fn := fun _ => fun
  | [d1, d2, d3] => { results := [.lit (.bool true)], args := [d1, d2, d3] }
  | _ => none }
def rollSumsRow : OpenClaim := { program := "ytadghiefddjbbaa", sum := "42f7afad10558d92f045feff8ab96cd7432682bfff1f0610eceeb385f54de0fd", func := "flitting/flittinglaw07.RollSums", spec := "rollSums", unfollowed := true, recurses := true, apart := false }
def RollSumsSaid : Prop := rollSumsRow.holds Try.pinned (OpenSpec.ofChange rollSumsSpec)

/-- ITS FALSE NEIGHBOUR: 'it returns false'. Refute it at one input. -/
def rollSumsWrong : ChangeSpec := { name := "rollSums", fn := fun _ => fun
  | [d1, d2, d3] => { results := [.lit (.bool false)], args := [d1, d2, d3] }
  | _ => none }
def RollSumsWrongFalsely : Prop := rollSumsRow.holds Try.pinned (OpenSpec.ofChange rollSumsWrong)

/-- 'flittinglaw07.RollWindows': WHATEVER THE INPUT: true; the input reads as it did. -/
def rollWindowsSpec : ChangeSpec := { name := "rollWindows", fn := fun _ => fun
  | [d1, d2, d3] => { results := [.lit (.bool true)], args := [d1, d2, d3] }
  | _ => none }
def rollWindowsRow : OpenClaim := { program := "ytadghiefddjbbaa", sum := "42f7afad10558d92f045feff8ab96cd7432682bfff1f0610eceeb385f54de0fd", func := "flitting/flittinglaw07.RollWindows", spec := "rollWindows", unfollowed := true, recurses := true, apart := false }
def RollWindowsSaid : Prop := rollWindowsRow.holds Try.pinned (OpenSpec.ofChange rollWindowsSpec)

/-- ITS FALSE NEIGHBOUR: 'it returns false'. Refute it at one input. -/
def rollWindowsWrong : ChangeSpec := { name := "rollWindows", fn := fun _ => fun
  | [d1, d2, d3] => { results := [.lit (.bool false)], args := [d1, d2, d3] }
  | _ => none }
def RollWindowsWrongFalsely : Prop := rollWindowsRow.holds Try.pinned (OpenSpec.ofChange rollWindowsWrong)

/-- 'flittinglaw07.RollFinds': WHATEVER THE INPUT: true; the input reads as it did. -/
def rollFindsSpec : ChangeSpec := { name := "rollFinds", fn := fun _ => fun
  | [d1, d2, d3] => { results := [.lit (.bool true)], args := [d1, d2, d3] }
  | _ => none }
def rollFindsRow : OpenClaim := { program := "ytadghiefddjbbaa", sum := "42f7afad10558d92f045feff8ab96cd7432682bfff1f0610eceeb385f54de0fd", func := "flitting/flittinglaw07.RollFinds", spec := "rollFinds", unfollowed := true, recurses := true, apart := false }
def RollFindsSaid : Prop := rollFindsRow.holds Try.pinned (OpenSpec.ofChange rollFindsSpec)

/-- ITS FALSE NEIGHBOUR: 'it returns false'. Refute it at one input. -/
def rollFindsWrong : ChangeSpec := { name := "rollFinds", fn := fun _ => fun
  | [d1, d2, d3] => { results := [.lit (.bool false)], args := [d1, d2, d3] }
  | _ => none }
def RollFindsWrongFalsely : Prop := rollFindsRow.holds Try.pinned (OpenSpec.ofChange rollFindsWrong)

/- THE SECOND FORM. 'bulk': how many values and letters a reading holds, each counted each time it is reached (what is shared counts as often as it is met; a slice's spare places count too). A statement '..UptoSaid' is the law's where the arguments, and the package variables that the reading takes, are together of bulk at most 1048576: NARROWER than '..Said'. Prove '..Said' where nothing that the law and all that it calls make is longer than what came in: it says more and counts as full. Else prove '..UptoSaid'. A law counts once. -/
mutual
def uptoBulk {H : Type} : DataW H → Nat
  | .lit (.string bytes) => bytes.length + 1
  | .lit _ => 1
  | .nil => 1
  | .ptr d => uptoBulk d + 1
  | .slice elems spare => uptoBulkAll elems + uptoBulkAll spare + 1
  | .agg parts => uptoBulkAll parts + 1
  | .iface _ d => uptoBulk d + 1
  | .map entries => uptoBulkEntries entries + 1
  | .held _ => 1
def uptoBulkAll {H : Type} : List (DataW H) → Nat
  | [] => 0
  | d :: r => uptoBulk d + uptoBulkAll r
def uptoBulkEntries {H : Type} : List (Lit × DataW H) → Nat
  | [] => 0
  | x :: r => uptoBulkEntry x + uptoBulkEntries r
def uptoBulkEntry {H : Type} : Lit × DataW H → Nat
  | (.string bytes, d) => bytes.length + uptoBulk d + 1
  | (_, d) => uptoBulk d + 1
 end
def uptoSmall : (H : Type) → List (DataW H) → Bool := fun _ ds => decide (uptoBulkAll ds ≤ 1048576)
def OpenSpec.upto (s : _root_.Go.ChangeSpec) : _root_.Go.OpenSpec := { _root_.Go.OpenSpec.ofChange s with cond := some uptoSmall }

/-- 'flittinglaw07.RollSums', WHERE WHAT IT READS IS OF BULK AT MOST 1048576: true; the input reads as it did. -/
def rollSumsUptoRow : OpenClaim := { program := "ytadghiefddjbbaa", sum := "42f7afad10558d92f045feff8ab96cd7432682bfff1f0610eceeb385f54de0fd", func := "flitting/flittinglaw07.RollSums", spec := "rollSums", unfollowed := true, recurses := true, apart := false, narrowed := true }
def RollSumsUptoSaid : Prop := rollSumsUptoRow.holds Try.pinned (OpenSpec.upto rollSumsSpec)

/-- 'flittinglaw07.RollWindows', WHERE WHAT IT READS IS OF BULK AT MOST 1048576: true; the input reads as it did. -/
def rollWindowsUptoRow : OpenClaim := { program := "ytadghiefddjbbaa", sum := "42f7afad10558d92f045feff8ab96cd7432682bfff1f0610eceeb385f54de0fd", func := "flitting/flittinglaw07.RollWindows", spec := "rollWindows", unfollowed := true, recurses := true, apart := false, narrowed := true }
def RollWindowsUptoSaid : Prop := rollWindowsUptoRow.holds Try.pinned (OpenSpec.upto rollWindowsSpec)

/-- 'flittinglaw07.RollFinds', WHERE WHAT IT READS IS OF BULK AT MOST 1048576: true; the input reads as it did. -/
def rollFindsUptoRow : OpenClaim := { program := "ytadghiefddjbbaa", sum := "42f7afad10558d92f045feff8ab96cd7432682bfff1f0610eceeb385f54de0fd", func := "flitting/flittinglaw07.RollFinds", spec := "rollFinds", unfollowed := true, recurses := true, apart := false, narrowed := true }
def RollFindsUptoSaid : Prop := rollFindsUptoRow.holds Try.pinned (OpenSpec.upto rollFindsSpec)

end Rows
end Go.Proofs.Ytadghiefddjbbaa
