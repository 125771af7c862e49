/-
  No cell of these rows narrows 'for every input' (looked for: loops, veiled, ifaces, maps, wideKeys, modest, calm, conditions, laid).
  DERIVED. THE GIVEN ROWS OF THIS SEAT. 4 by the template 'for every input the law returns true; each argument reads behind the call as it read before'; 0 by the template 'total and deterministic' (their statements: YtfnjlpmnoecehaaTotals.lean).
  GIVEN WITH THE SEED: the statements are not yours to turn. If you find one false, say at which input.
  Laid BY PROGRAM, IN A SANDBOX (cutbox-rows.mjs): the forced cells as the released guide's own fill.sh prints them over the translation 7f8b2cfc4bf5f745… (all of the seat's roots in one cut). By AI agents, Wed Nov 11 2026. No macro, syntax, notation, axiom, sorry.
-/
import Derived.Test.YtfnjlpmnoecehaaChecked
import GoSem.Claim
import GoSem.ClaimJoined
import GoSem.ClaimMapViews
import Derived.JoinedTies
import Derived.KernelRfl
namespace Go.Proofs.Ytfnjlpmnoecehaa
/- THE CELL 'sum', in the pinned program and in every row, IS THE sha256 OF THE DUMP (.gsa) THAT YtfnjlpmnoecehaaProg.lean LOADS. Nothing in Lean hashes anything: it is a label: what it is worth is what the hold of that sum in a sandbox is worth. -/
noncomputable def Try.pinned : Pinned := { name := "ytfnjlpmnoecehaa", sum := "7f8b2cfc4bf5f745caf8cffff0c07c06876877198a77775a8d13912b0502957a", checked := Try.checked }
namespace Rows
def none {H : Type} : Left H := { results := [], args := [] }

/-- 'headracelaw21.PickTakes': WHATEVER THE INPUT: true; the input reads as it did. -/
def pickTakesSpec : ChangeSpec := { name := "pickTakes", fn := fun _ => fun
  | [d1, d2, d3] => { results := [.lit (.bool true)], args := [d1, d2, d3] }
  | _ => none }
def pickTakesRow : OpenClaim := { program := "ytfnjlpmnoecehaa", sum := "7f8b2cfc4bf5f745caf8cffff0c07c06876877198a77775a8d13912b0502957a", func := "headrace/headracelaw21.PickTakes", spec := "pickTakes", apart := false }
def PickTakesSaid : Prop := pickTakesRow.holds Try.pinned (OpenSpec.ofChange pickTakesSpec)

/-- ITS FALSE NEIGHBOUR: 'it returns false'. Refute it at one input. -/
def pickTakesWrong : ChangeSpec := { name := "pickTakes", fn := fun _ => fun
  | [d1, d2, d3] => { results := [.lit (.bool false)], args := [d1, d2, d3] }
  | _ => none }
def PickTakesWrongFalsely : Prop := pickTakesRow.holds Try.pinned (OpenSpec.ofChange pickTakesWrong)

/-- 'headracelaw21.PickEven': WHATEVER THE INPUT: true; the input reads as it did. -/
def pickEvenSpec : ChangeSpec := { name := "pickEven", fn := fun _ => fun
  | [d] => { results := [.lit (.bool true)], args := [d] }
  | _ => none }
def pickEvenRow : OpenClaim := { program := "ytfnjlpmnoecehaa", sum := "7f8b2cfc4bf5f745caf8cffff0c07c06876877198a77775a8d13912b0502957a", func := "headrace/headracelaw21.PickEven", spec := "pickEven", apart := false }
def PickEvenSaid : Prop := pickEvenRow.holds Try.pinned (OpenSpec.ofChange pickEvenSpec)

/-- ITS FALSE NEIGHBOUR: 'it returns false'. Refute it at one input. -/
def pickEvenWrong : ChangeSpec := { name := "pickEven", fn := fun _ => fun
  | [d] => { results := [.lit (.bool false)], args := [d] }
  | _ => none }
def PickEvenWrongFalsely : Prop := pickEvenRow.holds Try.pinned (OpenSpec.ofChange pickEvenWrong)

/-- 'headracelaw21.PickLess': WHATEVER THE INPUT: true; the input reads as it did. -/
def pickLessSpec : ChangeSpec := { name := "pickLess", fn := fun _ => fun
  | [d1, d2, d3] => { results := [.lit (.bool true)], args := [d1, d2, d3] }
  | _ => none }
def pickLessRow : OpenClaim := { program := "ytfnjlpmnoecehaa", sum := "7f8b2cfc4bf5f745caf8cffff0c07c06876877198a77775a8d13912b0502957a", func := "headrace/headracelaw21.PickLess", spec := "pickLess", apart := false }
def PickLessSaid : Prop := pickLessRow.holds Try.pinned (OpenSpec.ofChange pickLessSpec)

/-- ITS FALSE NEIGHBOUR: 'it returns false'. Refute it at one input. -/
def pickLessWrong : ChangeSpec := { name := "pickLess", fn := fun _ => fun
  | [d1, d2, d3] => { results := [.lit (.bool false)], args := [d1, d2, d3] }
  | _ => none }
def PickLessWrongFalsely : Prop := pickLessRow.holds Try.pinned (OpenSpec.ofChange pickLessWrong)

/-- 'headracelaw21.PickTurned': WHATEVER THE INPUT: true; the input reads as it did. -/
def pickTurnedSpec : ChangeSpec := { name := "pickTurned", fn := fun _ => fun
  | [d1, d2, d3] => { results := [.lit (.bool true)], args := [d1, d2, d3] }
  | _ => none }
def pickTurnedRow : OpenClaim := { program := "ytfnjlpmnoecehaa", sum := "7f8b2cfc4bf5f745caf8cffff0c07c06876877198a77775a8d13912b0502957a", func := "headrace/headracelaw21.PickTurned", spec := "pickTurned", apart := false }
def PickTurnedSaid : Prop := pickTurnedRow.holds Try.pinned (OpenSpec.ofChange pickTurnedSpec)

/-- ITS FALSE NEIGHBOUR: 'it returns false'. Refute it at one input. -/
def pickTurnedWrong : ChangeSpec := { name := "pickTurned", fn := fun _ => fun
  | [d1, d2, d3] => { results := [.lit (.bool false)], args := [d1, d2, d3] }
  | _ => none }
def PickTurnedWrongFalsely : Prop := pickTurnedRow.holds Try.pinned (OpenSpec.ofChange pickTurnedWrong)

/- THE SECOND FORM. 'bulk': how many values and letters a reading holds, each counted each time it is reached (what is shared counts as often as it is met; a slice's spare places count too). A statement '..UptoSaid' is the law's where the arguments, and the package variables that the reading takes, are together of bulk at most 1048576: NARROWER than '..Said'. Prove '..Said' where nothing that the law and all that it calls make is longer than what came in: it says more and counts as full. Else prove '..UptoSaid'. A law counts once. -/
mutual
def uptoBulk {H : Type} : DataW H → Nat
  | .lit (.string bytes) => bytes.length + 1
  | .lit _ => 1
  | .nil => 1
  | .ptr d => uptoBulk d + 1
  | .slice elems spare => uptoBulkAll elems + uptoBulkAll spare + 1
  | .agg parts => uptoBulkAll parts + 1
  | .iface _ d => uptoBulk d + 1
  | .map entries => uptoBulkEntries entries + 1
  | .held _ => 1
def uptoBulkAll {H : Type} : List (DataW H) → Nat
  | [] => 0
  | d :: r => uptoBulk d + uptoBulkAll r
def uptoBulkEntries {H : Type} : List (Lit × DataW H) → Nat
  | [] => 0
  | x :: r => uptoBulkEntry x + uptoBulkEntries r
def uptoBulkEntry {H : Type} : Lit × DataW H → Nat
  | (.string bytes, d) => bytes.length + uptoBulk d + 1
  | (_, d) => uptoBulk d + 1
 end
def uptoSmall : (H : Type) → List (DataW H) → Bool := fun _ ds => decide (uptoBulkAll ds ≤ 1048576)
def OpenSpec.upto (s : _root_.Go.ChangeSpec) : _root_.Go.OpenSpec := { _root_.Go.OpenSpec.ofChange s with cond := some uptoSmall }

/-- 'headracelaw21.PickTakes', WHERE WHAT IT READS IS OF BULK AT MOST 1048576: true; the input reads as it did. -/
def pickTakesUptoRow : OpenClaim := { program := "ytfnjlpmnoecehaa", sum := "7f8b2cfc4bf5f745caf8cffff0c07c06876877198a77775a8d13912b0502957a", func := "headrace/headracelaw21.PickTakes", spec := "pickTakes", apart := false, narrowed := true }
def PickTakesUptoSaid : Prop := pickTakesUptoRow.holds Try.pinned (OpenSpec.upto pickTakesSpec)

/-- 'headracelaw21.PickEven', WHERE WHAT IT READS IS OF BULK AT MOST 1048576: true; the input reads as it did. -/
def pickEvenUptoRow : OpenClaim := { program := "ytfnjlpmnoecehaa", sum := "7f8b2cfc4bf5f745caf8cffff0c07c06876877198a77775a8d13912b0502957a", func := "headrace/headracelaw21.PickEven", spec := "pickEven", apart := false, narrowed := true }
def PickEvenUptoSaid : Prop := pickEvenUptoRow.holds Try.pinned (OpenSpec.upto pickEvenSpec)

/-- 'headracelaw21.PickLess', WHERE WHAT IT READS IS OF BULK AT MOST 1048576: true; the input reads as it did. -/
def pickLessUptoRow : OpenClaim := { program := "ytfnjlpmnoecehaa", sum := "7f8b2cfc4bf5f745caf8cffff0c07c06876877198a77775a8d13912b0502957a", func := "headrace/headracelaw21.PickLess", spec := "pickLess", apart := false, narrowed := true }
def PickLessUptoSaid : Prop := pickLessUptoRow.holds Try.pinned (OpenSpec.upto pickLessSpec)

/-- 'headracelaw21.PickTurned', WHERE WHAT IT READS IS OF BULK AT MOST 1048576: true; the input reads as it did. -/
def pickTurnedUptoRow : OpenClaim := { program := "ytfnjlpmnoecehaa", sum := "7f8b2cfc4bf5f745caf8cffff0c07c06876877198a77775a8d13912b0502957a", func := "headrace/headracelaw21.PickTurned", spec := "pickTurned", apart := false, narrowed := true }
def PickTurnedUptoSaid : Prop := pickTurnedUptoRow.holds Try.pinned (OpenSpec.upto pickTurnedSpec)

end Rows
end Go.Proofs.Ytfnjlpmnoecehaa
