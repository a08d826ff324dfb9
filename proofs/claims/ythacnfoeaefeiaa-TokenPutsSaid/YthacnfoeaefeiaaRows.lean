/-
  No cell of these rows narrows 'for every input' (looked for: loops, veiled, ifaces, maps, wideKeys, modest, calm, conditions, laid).
  DERIVED. THE GIVEN ROWS OF THIS SEAT. 3 by the template 'for every input the law returns true; each argument reads behind the call as it read before'; 0 by the template 'total and deterministic' (their statements: YthacnfoeaefeiaaTotals.lean).
  GIVEN WITH THE SEED: the statements are not yours to turn. If you find one false, say at which input.
  Laid BY PROGRAM, IN A SANDBOX (cutbox-rows.mjs): the forced cells as the released guide's own fill.sh prints them over the translation 4dd0bbdaa171f00f… (all of the seat's roots in one cut). By AI agents, Wed Nov 11 2026. No macro, syntax, notation, axiom, sorry.
-/
import Derived.Test.YthacnfoeaefeiaaChecked
import GoSem.Claim
import GoSem.ClaimJoined
import GoSem.ClaimMapViews
import Derived.JoinedTies
import Derived.KernelRfl
namespace Go.Proofs.Ythacnfoeaefeiaa
/- THE CELL 'sum', in the pinned program and in every row, IS THE sha256 OF THE DUMP (.gsa) THAT YthacnfoeaefeiaaProg.lean LOADS. Nothing in Lean hashes anything: it is a label: what it is worth is what the hold of that sum in a sandbox is worth. -/
noncomputable def Try.pinned : Pinned := { name := "ythacnfoeaefeiaa", sum := "4dd0bbdaa171f00f44ede634298fab673b83faeee60b71577a8fb5a3a7cc34d2", checked := Try.checked }
namespace Rows
def none {H : Type} : Left H := { results := [], args := [] }

/-- 'flittinglaw16.TokenJoins': WHATEVER THE INPUT: true; the input reads as it did. -/
def tokenJoinsSpec : ChangeSpec := { name := "tokenJoins", fn := fun _ => fun
  | [d1, d2] => { results := [.lit (.bool true)], args := [d1, d2] }
  | _ => none }
def tokenJoinsRow : OpenClaim := { program := "ythacnfoeaefeiaa", sum := "4dd0bbdaa171f00f44ede634298fab673b83faeee60b71577a8fb5a3a7cc34d2", func := "flitting/flittinglaw16.TokenJoins", spec := "tokenJoins", apart := false }
def TokenJoinsSaid : Prop := tokenJoinsRow.holds Try.pinned (OpenSpec.ofChange tokenJoinsSpec)

/-- ITS FALSE NEIGHBOUR: 'it returns false'. Refute it at one input. -/
def tokenJoinsWrong : ChangeSpec := { name := "tokenJoins", fn := fun _ => fun
  | [d1, d2] => { results := [.lit (.bool false)], args := [d1, d2] }
  | _ => none }
def TokenJoinsWrongFalsely : Prop := tokenJoinsRow.holds Try.pinned (OpenSpec.ofChange tokenJoinsWrong)

/-- 'flittinglaw16.TokenPuts': WHATEVER THE INPUT: true; the input reads as it did. -/
def tokenPutsSpec : ChangeSpec := { name := "tokenPuts", fn := fun _ => fun
  | [d1, d2] => { results := [.lit (.bool true)], args := [d1, d2] }
  | _ => none }
def tokenPutsRow : OpenClaim := { program := "ythacnfoeaefeiaa", sum := "4dd0bbdaa171f00f44ede634298fab673b83faeee60b71577a8fb5a3a7cc34d2", func := "flitting/flittinglaw16.TokenPuts", spec := "tokenPuts", unfollowed := true, recurses := true, apart := false }
def TokenPutsSaid : Prop := tokenPutsRow.holds Try.pinned (OpenSpec.ofChange tokenPutsSpec)

/-- ITS FALSE NEIGHBOUR: 'it returns false'. Refute it at one input. -/
def tokenPutsWrong : ChangeSpec := { name := "tokenPuts", fn := fun _ => fun
  | [d1, d2] => { results := [.lit (.bool false)], args := [d1, d2] }
  | _ => none }
def TokenPutsWrongFalsely : Prop := tokenPutsRow.holds Try.pinned (OpenSpec.ofChange tokenPutsWrong)

/-- 'flittinglaw16.TokenGets': WHATEVER THE INPUT: true; the input reads as it did. -/
def tokenGetsSpec : ChangeSpec := { name := "tokenGets", fn := fun _ => fun
  | [d] => { results := [.lit (.bool true)], args := [d] }
  | _ => none }
def tokenGetsRow : OpenClaim := { program := "ythacnfoeaefeiaa", sum := "4dd0bbdaa171f00f44ede634298fab673b83faeee60b71577a8fb5a3a7cc34d2", func := "flitting/flittinglaw16.TokenGets", spec := "tokenGets", unfollowed := true, recurses := true, apart := false }
def TokenGetsSaid : Prop := tokenGetsRow.holds Try.pinned (OpenSpec.ofChange tokenGetsSpec)

/-- ITS FALSE NEIGHBOUR: 'it returns false'. Refute it at one input. -/
def tokenGetsWrong : ChangeSpec := { name := "tokenGets", fn := fun _ => fun
  | [d] => { results := [.lit (.bool false)], args := [d] }
  | _ => none }
def TokenGetsWrongFalsely : Prop := tokenGetsRow.holds Try.pinned (OpenSpec.ofChange tokenGetsWrong)

/- THE SECOND FORM. 'bulk': how many values and letters a reading holds, each counted each time it is reached (what is shared counts as often as it is met; a slice's spare places count too). A statement '..UptoSaid' is the law's where the arguments, and the package variables that the reading takes, are together of bulk at most 1048576: NARROWER than '..Said'. Prove '..Said' where nothing that the law and all that it calls make is longer than what came in: it says more and counts as full. Else prove '..UptoSaid'. A law counts once. -/
mutual
def uptoBulk {H : Type} : DataW H → Nat
  | .lit (.string bytes) => bytes.length + 1
  | .lit _ => 1
  | .nil => 1
  | .ptr d => uptoBulk d + 1
  | .slice elems spare => uptoBulkAll elems + uptoBulkAll spare + 1
  | .agg parts => uptoBulkAll parts + 1
  | .iface _ d => uptoBulk d + 1
  | .map entries => uptoBulkEntries entries + 1
  | .held _ => 1
def uptoBulkAll {H : Type} : List (DataW H) → Nat
  | [] => 0
  | d :: r => uptoBulk d + uptoBulkAll r
def uptoBulkEntries {H : Type} : List (Lit × DataW H) → Nat
  | [] => 0
  | x :: r => uptoBulkEntry x + uptoBulkEntries r
def uptoBulkEntry {H : Type} : Lit × DataW H → Nat
  | (.string bytes, d) => bytes.length + uptoBulk d + 1
  | (_, d) => uptoBulk d + 1
 end
def uptoSmall : (H : Type) → List (DataW H) → Bool := fun _ ds => decide (uptoBulkAll ds ≤ 1048576)
def OpenSpec.upto (s : _root_.Go.ChangeSpec) : _root_.Go.OpenSpec := { _root_.Go.OpenSpec.ofChange s with cond := some uptoSmall }

/-- 'flittinglaw16.TokenJoins', WHERE WHAT IT READS IS OF BULK AT MOST 1048576: true; the input reads as it did. -/
def tokenJoinsUptoRow : OpenClaim := { program := "ythacnfoeaefeiaa", sum := "4dd0bbdaa171f00f44ede634298fab673b83faeee60b71577a8fb5a3a7cc34d2", func := "flitting/flittinglaw16.TokenJoins", spec := "tokenJoins", apart := false, narrowed := true }
def TokenJoinsUptoSaid : Prop := tokenJoinsUptoRow.holds Try.pinned (OpenSpec.upto tokenJoinsSpec)

/-- 'flittinglaw16.TokenPuts', WHERE WHAT IT READS IS OF BULK AT MOST 1048576: true; the input reads as it did. -/
def tokenPutsUptoRow : OpenClaim := { program := "ythacnfoeaefeiaa", sum := "4dd0bbdaa171f00f44ede634298fab673b83faeee60b71577a8fb5a3a7cc34d2", func := "flitting/flittinglaw16.TokenPuts", spec := "tokenPuts", unfollowed := true, recurses := true, apart := false, narrowed := true }
def TokenPutsUptoSaid : Prop := tokenPutsUptoRow.holds Try.pinned (OpenSpec.upto tokenPutsSpec)

/-- 'flittinglaw16.TokenGets', WHERE WHAT IT READS IS OF BULK AT MOST 1048576: true; the input reads as it did. -/
def tokenGetsUptoRow : OpenClaim := { program := "ythacnfoeaefeiaa", sum := "4dd0bbdaa171f00f44ede634298fab673b83faeee60b71577a8fb5a3a7cc34d2", func := "flitting/flittinglaw16.TokenGets", spec := "tokenGets", unfollowed := true, recurses := true, apart := false, narrowed := true }
def TokenGetsUptoSaid : Prop := tokenGetsUptoRow.holds Try.pinned (OpenSpec.upto tokenGetsSpec)

end Rows
end Go.Proofs.Ythacnfoeaefeiaa
