/-
  No cell of these rows narrows 'for every input' (looked for: loops, veiled, ifaces, maps, wideKeys, modest, calm, conditions, laid).
  DERIVED. THE GIVEN ROWS OF THIS SEAT. 5 by the template 'for every input the law returns true; each argument reads behind the call as it read before'; 0 by the template 'total and deterministic' (their statements: YtppoeneldilnjaaTotals.lean).
  GIVEN WITH THE SEED: the statements are not yours to turn. If you find one false, say at which input.
  Laid BY PROGRAM, IN A SANDBOX (cutbox-rows.mjs): the forced cells as the released guide's own fill.sh prints them over the translation 5137e9d2ce99bdf9… (all of the seat's roots in one cut). By AI agents, Wed Nov 11 2026. No macro, syntax, notation, axiom, sorry.
-/
import Derived.Test.YtppoeneldilnjaaChecked
import GoSem.Claim
import GoSem.ClaimJoined
import GoSem.ClaimMapViews
import Derived.JoinedTies
import Derived.KernelRfl
namespace Go.Proofs.Ytppoeneldilnjaa
/- THE CELL 'sum', in the pinned program and in every row, IS THE sha256 OF THE DUMP (.gsa) THAT YtppoeneldilnjaaProg.lean LOADS. Nothing in Lean hashes anything: it is a label: what it is worth is what the hold of that sum in a sandbox is worth. -/
noncomputable def Try.pinned : Pinned := { name := "ytppoeneldilnjaa", sum := "5137e9d2ce99bdf9d28e74bcc23f03e54b68e2311d807f6ba9a2e701abbd841a", checked := Try.checked }
namespace Rows
def none {H : Type} : Left H := { results := [], args := [] }

/-- 'flittinglaw06.MixShort': WHATEVER THE INPUT: true; the input reads as it did. -/
def mixShortSpec : ChangeSpec := { name := "mixShort", fn := fun _ => fun
  | [d1, d2] => { results := [.lit (.bool true)], args := [d1, d2] }
  | _ => none }
def mixShortRow : OpenClaim := { program := "ytppoeneldilnjaa", sum := "5137e9d2ce99bdf9d28e74bcc23f03e54b68e2311d807f6ba9a2e701abbd841a", func := "flitting/flittinglaw06.MixShort", spec := "mixShort", recurses := true, apart := false }
def MixShortSaid : Prop := mixShortRow.holds Try.pinned (OpenSpec.ofChange mixShortSpec)

/-- ITS FALSE NEIGHBOUR: 'it returns false'. Refute it at one input. -/
def mixShortWrong : ChangeSpec := { name := "mixShort", fn := fun _ => fun
  | [d1, d2] => { results := [.lit (.bool false)], args := [d1, d2] }
  | _ => none }
def MixShortWrongFalsely : Prop := mixShortRow.holds Try.pinned (OpenSpec.ofChange mixShortWrong)

/-- 'flittinglaw06.MixPieces': WHATEVER THE INPUT: true; the input reads as it did. -/
def mixPiecesSpec : ChangeSpec := { name := "mixPieces", fn := fun _ => fun
  | [d] => { results := [.lit (.bool true)], args := [d] }
  | _ => none }
def mixPiecesRow : OpenClaim := { program := "ytppoeneldilnjaa", sum := "5137e9d2ce99bdf9d28e74bcc23f03e54b68e2311d807f6ba9a2e701abbd841a", func := "flitting/flittinglaw06.MixPieces", spec := "mixPieces", recurses := true, apart := false }
def MixPiecesSaid : Prop := mixPiecesRow.holds Try.pinned (OpenSpec.ofChange mixPiecesSpec)

/-- ITS FALSE NEIGHBOUR: 'it returns false'. Refute it at one input. -/
def mixPiecesWrong : ChangeSpec := { name := "mixPieces", fn := fun _ => fun
  | [d] => { results := [.lit (.bool false)], args := [d] }
  | _ => none }
def MixPiecesWrongFalsely : Prop := mixPiecesRow.holds Try.pinned (OpenSpec.ofChange mixPiecesWrong)

/-- 'flittinglaw06.MixSums': WHATEVER THE INPUT: true; the input reads as it did. -/
def mixSumsSpec : ChangeSpec := { name := "mixSums", fn := fun _ => fun
  | [d1, d2] => { results := [.lit (.bool true)], args := [d1, d2] }
  | _ => none }
def mixSumsRow : OpenClaim := { program := "ytppoeneldilnjaa", sum := "5137e9d2ce99bdf9d28e74bcc23f03e54b68e2311d807f6ba9a2e701abbd841a", func := "flitting/flittinglaw06.MixSums", spec := "mixSums", recurses := true, apart := false }
def MixSumsSaid : Prop := mixSumsRow.holds Try.pinned (OpenSpec.ofChange mixSumsSpec)

/-- ITS FALSE NEIGHBOUR: 'it returns false'. Refute it at one input. -/
def mixSumsWrong : ChangeSpec := { name := "mixSums", fn := fun _ => fun
  | [d1, d2] => { results := [.lit (.bool false)], args := [d1, d2] }
  | _ => none }
def MixSumsWrongFalsely : Prop := mixSumsRow.holds Try.pinned (OpenSpec.ofChange mixSumsWrong)

/-- 'flittinglaw06.MixRounds': WHATEVER THE INPUT: true; the input reads as it did. -/
def mixRoundsSpec : ChangeSpec := { name := "mixRounds", fn := fun _ => fun
  | [d1, d2, d3] => { results := [.lit (.bool true)], args := [d1, d2, d3] }
  | _ => none }
def mixRoundsRow : OpenClaim := { program := "ytppoeneldilnjaa", sum := "5137e9d2ce99bdf9d28e74bcc23f03e54b68e2311d807f6ba9a2e701abbd841a", func := "flitting/flittinglaw06.MixRounds", spec := "mixRounds", recurses := true, apart := false }
def MixRoundsSaid : Prop := mixRoundsRow.holds Try.pinned (OpenSpec.ofChange mixRoundsSpec)

/-- ITS FALSE NEIGHBOUR: 'it returns false'. Refute it at one input. -/
def mixRoundsWrong : ChangeSpec := { name := "mixRounds", fn := fun _ => fun
  | [d1, d2, d3] => { results := [.lit (.bool false)], args := [d1, d2, d3] }
  | _ => none }
def MixRoundsWrongFalsely : Prop := mixRoundsRow.holds Try.pinned (OpenSpec.ofChange mixRoundsWrong)

/-- 'flittinglaw06.MixTexts': WHATEVER THE INPUT: true; the input reads as it did. -/
def mixTextsSpec : ChangeSpec := { name := "mixTexts", fn := fun _ => fun
  | [d1, d2] => { results := [.lit (.bool true)], args := [d1, d2] }
  | _ => none }
def mixTextsRow : OpenClaim := { program := "ytppoeneldilnjaa", sum := "5137e9d2ce99bdf9d28e74bcc23f03e54b68e2311d807f6ba9a2e701abbd841a", func := "flitting/flittinglaw06.MixTexts", spec := "mixTexts", recurses := true, apart := false }
def MixTextsSaid : Prop := mixTextsRow.holds Try.pinned (OpenSpec.ofChange mixTextsSpec)

/-- ITS FALSE NEIGHBOUR: 'it returns false'. Refute it at one input. -/
def mixTextsWrong : ChangeSpec := { name := "mixTexts", fn := fun _ => fun
  | [d1, d2] => { results := [.lit (.bool false)], args := [d1, d2] }
  | _ => none }
def MixTextsWrongFalsely : Prop := mixTextsRow.holds Try.pinned (OpenSpec.ofChange mixTextsWrong)

/- THE SECOND FORM. 'bulk': how many values and letters a reading holds, each counted each time it is reached (what is shared counts as often as it is met; a slice's spare places count too). A statement '..UptoSaid' is the law's where the arguments, and the package variables that the reading takes, are together of bulk at most 1048576: NARROWER than '..Said'. Prove '..Said' where nothing that the law and all that it calls make is longer than what came in: it says more and counts as full. Else prove '..UptoSaid'. A law counts once. -/
mutual
def uptoBulk {H : Type} : DataW H → Nat
  | .lit (.string bytes) => bytes.length + 1
  | .lit _ => 1
  | .nil => 1
  | .ptr d => uptoBulk d + 1
  | .slice elems spare => uptoBulkAll elems + uptoBulkAll spare + 1
  | .agg parts => uptoBulkAll parts + 1
  | .iface _ d => uptoBulk d + 1
  | .map entries => uptoBulkEntries entries + 1
  | .held _ => 1
def uptoBulkAll {H : Type} : List (DataW H) → Nat
  | [] => 0
  | d :: r => uptoBulk d + uptoBulkAll r
def uptoBulkEntries {H : Type} : List (Lit × DataW H) → Nat
  | [] => 0
  | x :: r => uptoBulkEntry x + uptoBulkEntries r
def uptoBulkEntry {H : Type} : Lit × DataW H → Nat
  | (.string bytes, d) => bytes.length + uptoBulk d + 1
  | (_, d) => uptoBulk d + 1
 end
def uptoSmall : (H : Type) → List (DataW H) → Bool := fun _ ds => decide (uptoBulkAll ds ≤ 1048576)
def OpenSpec.upto (s : _root_.Go.ChangeSpec) : _root_.Go.OpenSpec := { _root_.Go.OpenSpec.ofChange s with cond := some uptoSmall }

/-- 'flittinglaw06.MixShort', WHERE WHAT IT READS IS OF BULK AT MOST 1048576: true; the input reads as it did. -/
def mixShortUptoRow : OpenClaim := { program := "ytppoeneldilnjaa", sum := "5137e9d2ce99bdf9d28e74bcc23f03e54b68e2311d807f6ba9a2e701abbd841a", func := "flitting/flittinglaw06.MixShort", spec := "mixShort", recurses := true, apart := false, narrowed := true }
def MixShortUptoSaid : Prop := mixShortUptoRow.holds Try.pinned (OpenSpec.upto mixShortSpec)

/-- 'flittinglaw06.MixPieces', WHERE WHAT IT READS IS OF BULK AT MOST 1048576: true; the input reads as it did. -/
def mixPiecesUptoRow : OpenClaim := { program := "ytppoeneldilnjaa", sum := "5137e9d2ce99bdf9d28e74bcc23f03e54b68e2311d807f6ba9a2e701abbd841a", func := "flitting/flittinglaw06.MixPieces", spec := "mixPieces", recurses := true, apart := false, narrowed := true }
def MixPiecesUptoSaid : Prop := mixPiecesUptoRow.holds Try.pinned (OpenSpec.upto mixPiecesSpec)

/-- 'flittinglaw06.MixSums', WHERE WHAT IT READS IS OF BULK AT MOST 1048576: true; the input reads as it did. -/
def mixSumsUptoRow : OpenClaim := { program := "ytppoeneldilnjaa", sum := "5137e9d2ce99bdf9d28e74bcc23f03e54b68e2311d807f6ba9a2e701abbd841a", func := "flitting/flittinglaw06.MixSums", spec := "mixSums", recurses := true, apart := false, narrowed := true }
def MixSumsUptoSaid : Prop := mixSumsUptoRow.holds Try.pinned (OpenSpec.upto mixSumsSpec)

/-- 'flittinglaw06.MixRounds', WHERE WHAT IT READS IS OF BULK AT MOST 1048576: true; the input reads as it did. -/
def mixRoundsUptoRow : OpenClaim := { program := "ytppoeneldilnjaa", sum := "5137e9d2ce99bdf9d28e74bcc23f03e54b68e2311d807f6ba9a2e701abbd841a", func := "flitting/flittinglaw06.MixRounds", spec := "mixRounds", recurses := true, apart := false, narrowed := true }
def MixRoundsUptoSaid : Prop := mixRoundsUptoRow.holds Try.pinned (OpenSpec.upto mixRoundsSpec)

/-- 'flittinglaw06.MixTexts', WHERE WHAT IT READS IS OF BULK AT MOST 1048576: true; the input reads as it did. -/
def mixTextsUptoRow : OpenClaim := { program := "ytppoeneldilnjaa", sum := "5137e9d2ce99bdf9d28e74bcc23f03e54b68e2311d807f6ba9a2e701abbd841a", func := "flitting/flittinglaw06.MixTexts", spec := "mixTexts", recurses := true, apart := false, narrowed := true }
def MixTextsUptoSaid : Prop := mixTextsUptoRow.holds Try.pinned (OpenSpec.upto mixTextsSpec)

end Rows
end Go.Proofs.Ytppoeneldilnjaa
