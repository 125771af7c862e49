/-
  No cell of these rows narrows 'for every input' (looked for: loops, veiled, ifaces, maps, wideKeys, modest, calm, conditions, laid).
  DERIVED. THE GIVEN ROWS OF THIS SEAT. 4 by the template 'for every input the law returns true; each argument reads behind the call as it read before'; 0 by the template 'total and deterministic' (their statements: YtdflncklcpfcmaaTotals.lean).
  GIVEN WITH THE SEED: the statements are not yours to turn. If you find one false, say at which input.
  Laid BY PROGRAM, IN A SANDBOX (cutbox-rows.mjs): the forced cells as the released guide's own fill.sh prints them over the translation ce0278a3dac217eb… (all of the seat's roots in one cut). By AI agents, Wed Nov 11 2026. No macro, syntax, notation, axiom, sorry.
-/
import Derived.Test.YtdflncklcpfcmaaChecked
import GoSem.Claim
import GoSem.ClaimJoined
import GoSem.ClaimMapViews
import Derived.JoinedTies
import Derived.KernelRfl
namespace Go.Proofs.Ytdflncklcpfcmaa
/- THE CELL 'sum', in the pinned program and in every row, IS THE sha256 OF THE DUMP (.gsa) THAT YtdflncklcpfcmaaProg.lean LOADS. Nothing in Lean hashes anything: it is a label: what it is worth is what the hold of that sum in a sandbox is worth. -/
noncomputable def Try.pinned : Pinned := { name := "ytdflncklcpfcmaa", sum := "ce0278a3dac217ebccbbdc59eac3ecca37f9c324b8a568f8792c025995e70d65", checked := Try.checked }
namespace Rows
def none {H : Type} : Left H := { results := [], args := [] }

/-- 'headracelaw20.ScoreSteps': WHATEVER THE INPUT: true; the input reads as it did. -/
def scoreStepsSpec : ChangeSpec := { name := "scoreSteps", fn := fun _ => fun
  | [d1, d2] => { results := [.lit (.bool true)], args := [d1, d2] }
  | _ => none }
def scoreStepsRow : OpenClaim := { program := "ytdflncklcpfcmaa", sum := "ce0278a3dac217ebccbbdc59eac3ecca37f9c324b8a568f8792c025995e70d65", func := "headrace/headracelaw20.ScoreSteps", spec := "scoreSteps", apart := false }
def ScoreStepsSaid : Prop := scoreStepsRow.holds Try.pinned (OpenSpec.ofChange scoreStepsSpec)

/-- ITS FALSE NEIGHBOUR: 'it returns false'. Refute it at one input. -/
def scoreStepsWrong : ChangeSpec := { name := "scoreSteps", fn := fun _ => fun
  | [d1, d2] => { results := [.lit (.bool false)], args := [d1, d2] }
  | _ => none }
def ScoreStepsWrongFalsely : Prop := scoreStepsRow.holds Try.pinned (OpenSpec.ofChange scoreStepsWrong)

/-- 'headracelaw20.ScoreBounds': WHATEVER THE INPUT: true; the input reads as it did. -/
def scoreBoundsSpec : ChangeSpec := { name := "scoreBounds", fn := fun _ => fun
  | [d] => { results := [.lit (.bool true)], args := [d] }
  | _ => none }
def scoreBoundsRow : OpenClaim := { program := "ytdflncklcpfcmaa", sum := "ce0278a3dac217ebccbbdc59eac3ecca37f9c324b8a568f8792c025995e70d65", func := "headrace/headracelaw20.ScoreBounds", spec := "scoreBounds", apart := false }
def ScoreBoundsSaid : Prop := scoreBoundsRow.holds Try.pinned (OpenSpec.ofChange scoreBoundsSpec)

/-- ITS FALSE NEIGHBOUR: 'it returns false'. Refute it at one input. -/
def scoreBoundsWrong : ChangeSpec := { name := "scoreBounds", fn := fun _ => fun
  | [d] => { results := [.lit (.bool false)], args := [d] }
  | _ => none }
def ScoreBoundsWrongFalsely : Prop := scoreBoundsRow.holds Try.pinned (OpenSpec.ofChange scoreBoundsWrong)

/-- 'headracelaw20.ScoreComes': WHATEVER THE INPUT: true; the input reads as it did. -/
def scoreComesSpec : ChangeSpec := { name := "scoreComes", fn := fun _ => fun
  | [d1, d2] => { results := [.lit (.bool true)], args := [d1, d2] }
  | _ => none }
def scoreComesRow : OpenClaim := { program := "ytdflncklcpfcmaa", sum := "ce0278a3dac217ebccbbdc59eac3ecca37f9c324b8a568f8792c025995e70d65", func := "headrace/headracelaw20.ScoreComes", spec := "scoreComes", apart := false }
def ScoreComesSaid : Prop := scoreComesRow.holds Try.pinned (OpenSpec.ofChange scoreComesSpec)

/-- ITS FALSE NEIGHBOUR: 'it returns false'. Refute it at one input. -/
def scoreComesWrong : ChangeSpec := { name := "scoreComes", fn := fun _ => fun
  | [d1, d2] => { results := [.lit (.bool false)], args := [d1, d2] }
  | _ => none }
def ScoreComesWrongFalsely : Prop := scoreComesRow.holds Try.pinned (OpenSpec.ofChange scoreComesWrong)

/-- 'headracelaw20.ScoreOrder': WHATEVER THE INPUT: true; the input reads as it did. -/
def scoreOrderSpec : ChangeSpec := { name := "scoreOrder", fn := fun _ => fun
  | [d1, d2, d3] => { results := [.lit (.bool true)], args := [d1, d2, d3] }
  | _ => none }
def scoreOrderRow : OpenClaim := { program := "ytdflncklcpfcmaa", sum := "ce0278a3dac217ebccbbdc59eac3ecca37f9c324b8a568f8792c025995e70d65", func := "headrace/headracelaw20.ScoreOrder", spec := "scoreOrder", apart := false }
def ScoreOrderSaid : Prop := scoreOrderRow.holds Try.pinned (OpenSpec.ofChange scoreOrderSpec)

/-- ITS FALSE NEIGHBOUR: 'it returns false'. Refute it at one input. -/
def scoreOrderWrong : ChangeSpec := { name := "scoreOrder", fn := fun _ => fun
  | [d1, d2, d3] => { results := [.lit (.bool false)], args := [d1, d2, d3] }
  | _ => none }
def ScoreOrderWrongFalsely : Prop := scoreOrderRow.holds Try.pinned (OpenSpec.ofChange scoreOrderWrong)

/- THE SECOND FORM. 'bulk': how many values and letters a reading holds, each counted each time it is reached (what is shared counts as often as it is met; a slice's spare places count too). A statement '..UptoSaid' is the law's where the arguments, and the package variables that the reading takes, are together of bulk at most 1048576: NARROWER than '..Said'. Prove '..Said' where nothing that the law and all that it calls make is longer than what came in: it says more and counts as full. Else prove '..UptoSaid'. A law counts once. -/
mutual
def uptoBulk {H : Type} : DataW H → Nat
  | .lit (.string bytes) => bytes.length + 1
  | .lit _ => 1
  | .nil => 1
  | .ptr d => uptoBulk d + 1
  | .slice elems spare => uptoBulkAll elems + uptoBulkAll spare + 1
  | .agg parts => uptoBulkAll parts + 1
  | .iface _ d => uptoBulk d + 1
  | .map entries => uptoBulkEntries entries + 1
  | .held _ => 1
def uptoBulkAll {H : Type} : List (DataW H) → Nat
  | [] => 0
  | d :: r => uptoBulk d + uptoBulkAll r
def uptoBulkEntries {H : Type} : List (Lit × DataW H) → Nat
  | [] => 0
  | x :: r => uptoBulkEntry x + uptoBulkEntries r
def uptoBulkEntry {H : Type} : Lit × DataW H → Nat
  | (.string bytes, d) => bytes.length + uptoBulk d + 1
  | (_, d) => uptoBulk d + 1
 end
def uptoSmall : (H : Type) → List (DataW H) → Bool := fun _ ds => decide (uptoBulkAll ds ≤ 1048576)
def OpenSpec.upto (s : _root_.Go.ChangeSpec) : _root_.Go.OpenSpec := { _root_.Go.OpenSpec.ofChange s with cond := some uptoSmall }

/-- 'headracelaw20.ScoreSteps', WHERE WHAT IT READS IS OF BULK AT MOST 1048576: true; the input reads as it did. -/
def scoreStepsUptoRow : OpenClaim := { program := "ytdflncklcpfcmaa", sum := "ce0278a3dac217ebccbbdc59eac3ecca37f9c324b8a568f8792c025995e70d65", func := "headrace/headracelaw20.ScoreSteps", spec := "scoreSteps", apart := false, narrowed := true }
def ScoreStepsUptoSaid : Prop := scoreStepsUptoRow.holds Try.pinned (OpenSpec.upto scoreStepsSpec)

/-- 'headracelaw20.ScoreBounds', WHERE WHAT IT READS IS OF BULK AT MOST 1048576: true; the input reads as it did. -/
def scoreBoundsUptoRow : OpenClaim := { program := "ytdflncklcpfcmaa", sum := "ce0278a3dac217ebccbbdc59eac3ecca37f9c324b8a568f8792c025995e70d65", func := "headrace/headracelaw20.ScoreBounds", spec := "scoreBounds", apart := false, narrowed := true }
def ScoreBoundsUptoSaid : Prop := scoreBoundsUptoRow.holds Try.pinned (OpenSpec.upto scoreBoundsSpec)

/-- 'headracelaw20.ScoreComes', WHERE WHAT IT READS IS OF BULK AT MOST 1048576: true; the input reads as it did. -/
def scoreComesUptoRow : OpenClaim := { program := "ytdflncklcpfcmaa", sum := "ce0278a3dac217ebccbbdc59eac3ecca37f9c324b8a568f8792c025995e70d65", func := "headrace/headracelaw20.ScoreComes", spec := "scoreComes", apart := false, narrowed := true }
def ScoreComesUptoSaid : Prop := scoreComesUptoRow.holds Try.pinned (OpenSpec.upto scoreComesSpec)

/-- 'headracelaw20.ScoreOrder', WHERE WHAT IT READS IS OF BULK AT MOST 1048576: true; the input reads as it did. -/
def scoreOrderUptoRow : OpenClaim := { program := "ytdflncklcpfcmaa", sum := "ce0278a3dac217ebccbbdc59eac3ecca37f9c324b8a568f8792c025995e70d65", func := "headrace/headracelaw20.ScoreOrder", spec := "scoreOrder", apart := false, narrowed := true }
def ScoreOrderUptoSaid : Prop := scoreOrderUptoRow.holds Try.pinned (OpenSpec.upto scoreOrderSpec)

end Rows
end Go.Proofs.Ytdflncklcpfcmaa
