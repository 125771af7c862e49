/-
  No cell of these rows narrows 'for every input' (looked for: loops, veiled, ifaces, maps, wideKeys, modest, calm, conditions, laid).
  DERIVED. THE GIVEN ROWS OF THIS SEAT. 6 by the template 'for every input the law returns true; each argument reads behind the call as it read before'; 0 by the template 'total and deterministic' (their statements: YtlcblfkmadjppaaTotals.lean).
  GIVEN WITH THE SEED: the statements are not yours to turn. If you find one false, say at which input.
  Laid BY PROGRAM, IN A SANDBOX (cutbox-rows.mjs): the forced cells as the released guide's own fill.sh prints them over the translation 831c5044c7329f75… (all of the seat's roots in one cut). By AI agents, Wed Nov 11 2026. No macro, syntax, notation, axiom, sorry.
-/
import Derived.Test.YtlcblfkmadjppaaChecked
import GoSem.Claim
import GoSem.ClaimJoined
import GoSem.ClaimMapViews
import Derived.JoinedTies
import Derived.KernelRfl
namespace Go.Proofs.Ytlcblfkmadjppaa
/- THE CELL 'sum', in the pinned program and in every row, IS THE sha256 OF THE DUMP (.gsa) THAT YtlcblfkmadjppaaProg.lean LOADS. Nothing in Lean hashes anything: it is a label: what it is worth is what the hold of that sum in a sandbox is worth. -/
noncomputable def Try.pinned : Pinned := { name := "ytlcblfkmadjppaa", sum := "831c5044c7329f75fb7672c8bc90baf65f55c26187416f577512e4129033c945", checked := Try.checked }
namespace Rows
def none {H : Type} : Left H := { results := [], args := [] }

/-- 'headracelaw25.AttemptBounds': WHATEVER THE INPUT: true; the input reads as it did. -/
def attemptBoundsSpec : ChangeSpec := { name := "attemptBounds", fn := fun _ => fun
  | [d1, d2] => { results := [.lit (.bool true)], args := [d1, d2] }
  | _ => none }
def attemptBoundsRow : OpenClaim := { program := "ytlcblfkmadjppaa", sum := "831c5044c7329f75fb7672c8bc90baf65f55c26187416f577512e4129033c945", func := "headrace/headracelaw25.AttemptBounds", spec := "attemptBounds", unfollowed := true, recurses := true, apart := false }
def AttemptBoundsSaid : Prop := attemptBoundsRow.holds Try.pinned (OpenSpec.ofChange attemptBoundsSpec)

/-- ITS FALSE NEIGHBOUR: 'it returns false'. Refute it at one input. -/
def attemptBoundsWrong : ChangeSpec := { name := "attemptBounds", fn := fun _ => fun
  | [d1, d2] => { results := [.lit (.bool false)], args := [d1, d2] }
  | _ => none }
def AttemptBoundsWrongFalsely : Prop := attemptBoundsRow.holds Try.pinned (OpenSpec.ofChange attemptBoundsWrong)

/-- 'headracelaw25.AttemptSafe': WHATEVER THE INPUT: true; the input reads as it did. -/
def attemptSafeSpec : ChangeSpec := { name := "attemptSafe", fn := fun _ => fun
  | [d1, d2] => { results := [.lit (.bool true)], args := [d1, d2] }
  | _ => none }
def attemptSafeRow : OpenClaim := { program := "ytlcblfkmadjppaa", sum := "831c5044c7329f75fb7672c8bc90baf65f55c26187416f577512e4129033c945", func := "headrace/headracelaw25.AttemptSafe", spec := "attemptSafe", unfollowed := true, recurses := true, apart := false }
def AttemptSafeSaid : Prop := attemptSafeRow.holds Try.pinned (OpenSpec.ofChange attemptSafeSpec)

/-- ITS FALSE NEIGHBOUR: 'it returns false'. Refute it at one input. -/
def attemptSafeWrong : ChangeSpec := { name := "attemptSafe", fn := fun _ => fun
  | [d1, d2] => { results := [.lit (.bool false)], args := [d1, d2] }
  | _ => none }
def AttemptSafeWrongFalsely : Prop := attemptSafeRow.holds Try.pinned (OpenSpec.ofChange attemptSafeWrong)

/-- 'headracelaw25.AttemptLone': WHATEVER THE INPUT: true; the input reads as it did. -/
def attemptLoneSpec : ChangeSpec := { name := "attemptLone", fn := fun _ => fun
  | [d1, d2] => { results := [.lit (.bool true)], args := [d1, d2] }
  | _ => none }
def attemptLoneRow : OpenClaim := { program := "ytlcblfkmadjppaa", sum := "831c5044c7329f75fb7672c8bc90baf65f55c26187416f577512e4129033c945", func := "headrace/headracelaw25.AttemptLone", spec := "attemptLone", unfollowed := true, recurses := true, apart := false }
def AttemptLoneSaid : Prop := attemptLoneRow.holds Try.pinned (OpenSpec.ofChange attemptLoneSpec)

/-- ITS FALSE NEIGHBOUR: 'it returns false'. Refute it at one input. -/
def attemptLoneWrong : ChangeSpec := { name := "attemptLone", fn := fun _ => fun
  | [d1, d2] => { results := [.lit (.bool false)], args := [d1, d2] }
  | _ => none }
def AttemptLoneWrongFalsely : Prop := attemptLoneRow.holds Try.pinned (OpenSpec.ofChange attemptLoneWrong)

/-- 'headracelaw25.AttemptSteps': WHATEVER THE INPUT: true; the input reads as it did. -/
def attemptStepsSpec : ChangeSpec := { name := "attemptSteps", fn := fun _ => fun
  | [d1, d2] => { results := [.lit (.bool true)], args := [d1, d2] }
  | _ => none }
def attemptStepsRow : OpenClaim := { program := "ytlcblfkmadjppaa", sum := "831c5044c7329f75fb7672c8bc90baf65f55c26187416f577512e4129033c945", func := "headrace/headracelaw25.AttemptSteps", spec := "attemptSteps", unfollowed := true, recurses := true, apart := false }
def AttemptStepsSaid : Prop := attemptStepsRow.holds Try.pinned (OpenSpec.ofChange attemptStepsSpec)

/-- ITS FALSE NEIGHBOUR: 'it returns false'. Refute it at one input. -/
def attemptStepsWrong : ChangeSpec := { name := "attemptSteps", fn := fun _ => fun
  | [d1, d2] => { results := [.lit (.bool false)], args := [d1, d2] }
  | _ => none }
def AttemptStepsWrongFalsely : Prop := attemptStepsRow.holds Try.pinned (OpenSpec.ofChange attemptStepsWrong)

/-- 'headracelaw25.AttemptEnds': WHATEVER THE INPUT: true; the input reads as it did. -/
def attemptEndsSpec : ChangeSpec := { name := "attemptEnds", fn := fun _ => fun
  | [d1, d2] => { results := [.lit (.bool true)], args := [d1, d2] }
  | _ => none }
def attemptEndsRow : OpenClaim := { program := "ytlcblfkmadjppaa", sum := "831c5044c7329f75fb7672c8bc90baf65f55c26187416f577512e4129033c945", func := "headrace/headracelaw25.AttemptEnds", spec := "attemptEnds", unfollowed := true, recurses := true, apart := false }
def AttemptEndsSaid : Prop := attemptEndsRow.holds Try.pinned (OpenSpec.ofChange attemptEndsSpec)

/-- ITS FALSE NEIGHBOUR: 'it returns false'. Refute it at one input. -/
def attemptEndsWrong : ChangeSpec := { name := "attemptEnds", fn := fun _ => fun
  | [d1, d2] => { results := [.lit (.bool false)], args := [d1, d2] }
  | _ => none }
def AttemptEndsWrongFalsely : Prop := attemptEndsRow.holds Try.pinned (OpenSpec.ofChange attemptEndsWrong)

/-- 'headracelaw25.AttemptNil': WHATEVER THE INPUT: true; the input reads as it did. -/
def attemptNilSpec : ChangeSpec := { name := "attemptNil", fn := fun _ => fun
  | [d1, d2] => { results := [.lit (.bool true)], args := [d1, d2] }
  | _ => none }
def attemptNilRow : OpenClaim := { program := "ytlcblfkmadjppaa", sum := "831c5044c7329f75fb7672c8bc90baf65f55c26187416f577512e4129033c945", func := "headrace/headracelaw25.AttemptNil", spec := "attemptNil", unfollowed := true, recurses := true, apart := false }
def AttemptNilSaid : Prop := attemptNilRow.holds Try.pinned (OpenSpec.ofChange attemptNilSpec)

/-- ITS FALSE NEIGHBOUR: 'it returns false'. Refute it at one input. -/
def attemptNilWrong : ChangeSpec := { name := "attemptNil", fn := fun _ => fun
  | [d1, d2] => { results := [.lit (.bool false)], args := [d1, d2] }
  | _ => none }
def AttemptNilWrongFalsely : Prop := attemptNilRow.holds Try.pinned (OpenSpec.ofChange attemptNilWrong)

/- THE SECOND FORM. 'bulk': how many values and letters a reading holds, each counted each time it is reached (what is shared counts as often as it is met; a slice's spare places count too). A statement '..UptoSaid' is the law's where the arguments, and the package variables that the reading takes, are together of bulk at most 1048576: NARROWER than '..Said'. Prove '..Said' where nothing that the law and all that it calls make is longer than what came in: it says more and counts as full. Else prove '..UptoSaid'. A law counts once. -/
mutual
def uptoBulk {H : Type} : DataW H → Nat
  | .lit (.string bytes) => bytes.length + 1
  | .lit _ => 1
  | .nil => 1
  | .ptr d => uptoBulk d + 1
  | .slice elems spare => uptoBulkAll elems + uptoBulkAll spare + 1
  | .agg parts => uptoBulkAll parts + 1
  | .iface _ d => uptoBulk d + 1
  | .map entries => uptoBulkEntries entries + 1
  | .held _ => 1
def uptoBulkAll {H : Type} : List (DataW H) → Nat
  | [] => 0
  | d :: r => uptoBulk d + uptoBulkAll r
def uptoBulkEntries {H : Type} : List (Lit × DataW H) → Nat
  | [] => 0
  | x :: r => uptoBulkEntry x + uptoBulkEntries r
def uptoBulkEntry {H : Type} : Lit × DataW H → Nat
  | (.string bytes, d) => bytes.length + uptoBulk d + 1
  | (_, d) => uptoBulk d + 1
 end
def uptoSmall : (H : Type) → List (DataW H) → Bool := fun _ ds => decide (uptoBulkAll ds ≤ 1048576)
def OpenSpec.upto (s : _root_.Go.ChangeSpec) : _root_.Go.OpenSpec := { _root_.Go.OpenSpec.ofChange s with cond := some uptoSmall }

/-- 'headracelaw25.AttemptBounds', WHERE WHAT IT READS IS OF BULK AT MOST 1048576: true; the input reads as it did. -/
def attemptBoundsUptoRow : OpenClaim := { program := "ytlcblfkmadjppaa", sum := "831c5044c7329f75fb7672c8bc90baf65f55c26187416f577512e4129033c945", func := "headrace/headracelaw25.AttemptBounds", spec := "attemptBounds", unfollowed := true, recurses := true, apart := false, narrowed := true }
def AttemptBoundsUptoSaid : Prop := attemptBoundsUptoRow.holds Try.pinned (OpenSpec.upto attemptBoundsSpec)

/-- 'headracelaw25.AttemptSafe', WHERE WHAT IT READS IS OF BULK AT MOST 1048576: true; the input reads as it did. -/
def attemptSafeUptoRow : OpenClaim := { program := "ytlcblfkmadjppaa", sum := "831c5044c7329f75fb7672c8bc90baf65f55c26187416f577512e4129033c945", func := "headrace/headracelaw25.AttemptSafe", spec := "attemptSafe", unfollowed := true, recurses := true, apart := false, narrowed := true }
def AttemptSafeUptoSaid : Prop := attemptSafeUptoRow.holds Try.pinned (OpenSpec.upto attemptSafeSpec)

/-- 'headracelaw25.AttemptLone', WHERE WHAT IT READS IS OF BULK AT MOST 1048576: true; the input reads as it did. -/
def attemptLoneUptoRow : OpenClaim := { program := "ytlcblfkmadjppaa", sum := "831c5044c7329f75fb7672c8bc90baf65f55c26187416f577512e4129033c945", func := "headrace/headracelaw25.AttemptLone", spec := "attemptLone", unfollowed := true, recurses := true, apart := false, narrowed := true }
def AttemptLoneUptoSaid : Prop := attemptLoneUptoRow.holds Try.pinned (OpenSpec.upto attemptLoneSpec)

/-- 'headracelaw25.AttemptSteps', WHERE WHAT IT READS IS OF BULK AT MOST 1048576: true; the input reads as it did. -/
def attemptStepsUptoRow : OpenClaim := { program := "ytlcblfkmadjppaa", sum := "831c5044c7329f75fb7672c8bc90baf65f55c26187416f577512e4129033c945", func := "headrace/headracelaw25.AttemptSteps", spec := "attemptSteps", unfollowed := true, recurses := true, apart := false, narrowed := true }
def AttemptStepsUptoSaid : Prop := attemptStepsUptoRow.holds Try.pinned (OpenSpec.upto attemptStepsSpec)

/-- 'headracelaw25.AttemptEnds', WHERE WHAT IT READS IS OF BULK AT MOST 1048576: true; the input reads as it did. -/
def attemptEndsUptoRow : OpenClaim := { program := "ytlcblfkmadjppaa", sum := "831c5044c7329f75fb7672c8bc90baf65f55c26187416f577512e4129033c945", func := "headrace/headracelaw25.AttemptEnds", spec := "attemptEnds", unfollowed := true, recurses := true, apart := false, narrowed := true }
def AttemptEndsUptoSaid : Prop := attemptEndsUptoRow.holds Try.pinned (OpenSpec.upto attemptEndsSpec)

/-- 'headracelaw25.AttemptNil', WHERE WHAT IT READS IS OF BULK AT MOST 1048576: true; the input reads as it did. -/
def attemptNilUptoRow : OpenClaim := { program := "ytlcblfkmadjppaa", sum := "831c5044c7329f75fb7672c8bc90baf65f55c26187416f577512e4129033c945", func := "headrace/headracelaw25.AttemptNil", spec := "attemptNil", unfollowed := true, recurses := true, apart := false, narrowed := true }
def AttemptNilUptoSaid : Prop := attemptNilUptoRow.holds Try.pinned (OpenSpec.upto attemptNilSpec)

end Rows
end Go.Proofs.Ytlcblfkmadjppaa
