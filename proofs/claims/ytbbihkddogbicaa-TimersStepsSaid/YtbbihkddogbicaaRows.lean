/-
  No cell of these rows narrows 'for every input' (looked for: loops, veiled, ifaces, maps, wideKeys, modest, calm, conditions, laid).
  DERIVED. THE GIVEN ROWS OF THIS SEAT. 5 by the template 'for every input the law returns true; each argument reads behind the call as it read before'; 0 by the template 'total and deterministic' (their statements: YtbbihkddogbicaaTotals.lean).
  GIVEN WITH THE SEED: the statements are not yours to turn. If you find one false, say at which input.
  Laid BY PROGRAM, IN A SANDBOX (cutbox-rows.mjs): the forced cells as the released guide's own fill.sh prints them over the translation 579de33a6b6cd9f0… (all of the seat's roots in one cut). By AI agents, Wed Nov 11 2026. No macro, syntax, notation, axiom, sorry.
-/
import Derived.Test.YtbbihkddogbicaaChecked
import GoSem.Claim
import GoSem.ClaimJoined
import GoSem.ClaimMapViews
import Derived.JoinedTies
import Derived.KernelRfl
namespace Go.Proofs.Ytbbihkddogbicaa
/- THE CELL 'sum', in the pinned program and in every row, IS THE sha256 OF THE DUMP (.gsa) THAT YtbbihkddogbicaaProg.lean LOADS. Nothing in Lean hashes anything: it is a label: what it is worth is what the hold of that sum in a sandbox is worth. -/
noncomputable def Try.pinned : Pinned := { name := "ytbbihkddogbicaa", sum := "579de33a6b6cd9f043719adbdf5e60d0f2f548b6051aedf1e7421fb594bf03b0", checked := Try.checked }
namespace Rows
def none {H : Type} : Left H := { results := [], args := [] }

/-- 'headracelaw03.TimersSteps': WHATEVER THE INPUT: true; the input reads as it did. -/
def timersStepsSpec : ChangeSpec := { name := "timersSteps", fn := fun _ => fun
  | [d1, d2] => { results := [.lit (.bool true)], args := [d1, d2] }
  | _ => none }
def timersStepsRow : OpenClaim := { program := "ytbbihkddogbicaa", sum := "579de33a6b6cd9f043719adbdf5e60d0f2f548b6051aedf1e7421fb594bf03b0", func := "headrace/headracelaw03.TimersSteps", spec := "timersSteps", unfollowed := true, recurses := true, apart := false }
def TimersStepsSaid : Prop := timersStepsRow.holds Try.pinned (OpenSpec.ofChange timersStepsSpec)

/-- ITS FALSE NEIGHBOUR: 'it returns false'. Refute it at one input. -/
def timersStepsWrong : ChangeSpec := { name := "timersSteps", fn := fun _ => fun
  | [d1, d2] => { results := [.lit (.bool false)], args := [d1, d2] }
  | _ => none }
def TimersStepsWrongFalsely : Prop := timersStepsRow.holds Try.pinned (OpenSpec.ofChange timersStepsWrong)

/-- 'headracelaw03.TimersOrder': WHATEVER THE INPUT: true; the input reads as it did. -/
def timersOrderSpec : ChangeSpec := { name := "timersOrder", fn := fun _ => fun
  | [d1, d2] => { results := [.lit (.bool true)], args := [d1, d2] }
  | _ => none }
def timersOrderRow : OpenClaim := { program := "ytbbihkddogbicaa", sum := "579de33a6b6cd9f043719adbdf5e60d0f2f548b6051aedf1e7421fb594bf03b0", func := "headrace/headracelaw03.TimersOrder", spec := "timersOrder", unfollowed := true, recurses := true, apart := false }
def TimersOrderSaid : Prop := timersOrderRow.holds Try.pinned (OpenSpec.ofChange timersOrderSpec)

/-- ITS FALSE NEIGHBOUR: 'it returns false'. Refute it at one input. -/
def timersOrderWrong : ChangeSpec := { name := "timersOrder", fn := fun _ => fun
  | [d1, d2] => { results := [.lit (.bool false)], args := [d1, d2] }
  | _ => none }
def TimersOrderWrongFalsely : Prop := timersOrderRow.holds Try.pinned (OpenSpec.ofChange timersOrderWrong)

/-- 'headracelaw03.TimersStale': WHATEVER THE INPUT: true; the input reads as it did. -/
def timersStaleSpec : ChangeSpec := { name := "timersStale", fn := fun _ => fun
  | [d1, d2] => { results := [.lit (.bool true)], args := [d1, d2] }
  | _ => none }
def timersStaleRow : OpenClaim := { program := "ytbbihkddogbicaa", sum := "579de33a6b6cd9f043719adbdf5e60d0f2f548b6051aedf1e7421fb594bf03b0", func := "headrace/headracelaw03.TimersStale", spec := "timersStale", unfollowed := true, recurses := true, apart := false }
def TimersStaleSaid : Prop := timersStaleRow.holds Try.pinned (OpenSpec.ofChange timersStaleSpec)

/-- ITS FALSE NEIGHBOUR: 'it returns false'. Refute it at one input. -/
def timersStaleWrong : ChangeSpec := { name := "timersStale", fn := fun _ => fun
  | [d1, d2] => { results := [.lit (.bool false)], args := [d1, d2] }
  | _ => none }
def TimersStaleWrongFalsely : Prop := timersStaleRow.holds Try.pinned (OpenSpec.ofChange timersStaleWrong)

/-- 'headracelaw03.TimersNil': WHATEVER THE INPUT: true; the input reads as it did. -/
def timersNilSpec : ChangeSpec := { name := "timersNil", fn := fun _ => fun
  | [d1, d2] => { results := [.lit (.bool true)], args := [d1, d2] }
  | _ => none }
def timersNilRow : OpenClaim := { program := "ytbbihkddogbicaa", sum := "579de33a6b6cd9f043719adbdf5e60d0f2f548b6051aedf1e7421fb594bf03b0", func := "headrace/headracelaw03.TimersNil", spec := "timersNil", unfollowed := true, recurses := true, apart := false }
def TimersNilSaid : Prop := timersNilRow.holds Try.pinned (OpenSpec.ofChange timersNilSpec)

/-- ITS FALSE NEIGHBOUR: 'it returns false'. Refute it at one input. -/
def timersNilWrong : ChangeSpec := { name := "timersNil", fn := fun _ => fun
  | [d1, d2] => { results := [.lit (.bool false)], args := [d1, d2] }
  | _ => none }
def TimersNilWrongFalsely : Prop := timersNilRow.holds Try.pinned (OpenSpec.ofChange timersNilWrong)

/-- 'headracelaw03.TimersNext': WHATEVER THE INPUT: true; the input reads as it did. -/
def timersNextSpec : ChangeSpec := { name := "timersNext", fn := fun _ => fun
  | [d] => { results := [.lit (.bool true)], args := [d] }
  | _ => none }
def timersNextRow : OpenClaim := { program := "ytbbihkddogbicaa", sum := "579de33a6b6cd9f043719adbdf5e60d0f2f548b6051aedf1e7421fb594bf03b0", func := "headrace/headracelaw03.TimersNext", spec := "timersNext", unfollowed := true, recurses := true, apart := false }
def TimersNextSaid : Prop := timersNextRow.holds Try.pinned (OpenSpec.ofChange timersNextSpec)

/-- ITS FALSE NEIGHBOUR: 'it returns false'. Refute it at one input. -/
def timersNextWrong : ChangeSpec := { name := "timersNext", fn := fun _ => fun
  | [d] => { results := [.lit (.bool false)], args := [d] }
  | _ => none }
def TimersNextWrongFalsely : Prop := timersNextRow.holds Try.pinned (OpenSpec.ofChange timersNextWrong)

/- THE SECOND FORM. 'bulk': how many values and letters a reading holds, each counted each time it is reached (what is shared counts as often as it is met; a slice's spare places count too). A statement '..UptoSaid' is the law's where the arguments, and the package variables that the reading takes, are together of bulk at most 1048576: NARROWER than '..Said'. Prove '..Said' where nothing that the law and all that it calls make is longer than what came in: it says more and counts as full. Else prove '..UptoSaid'. A law counts once. -/
mutual
def uptoBulk {H : Type} : DataW H → Nat
  | .lit (.string bytes) => bytes.length + 1
  | .lit _ => 1
  | .nil => 1
  | .ptr d => uptoBulk d + 1
  | .slice elems spare => uptoBulkAll elems + uptoBulkAll spare + 1
  | .agg parts => uptoBulkAll parts + 1
  | .iface _ d => uptoBulk d + 1
  | .map entries => uptoBulkEntries entries + 1
  | .held _ => 1
def uptoBulkAll {H : Type} : List (DataW H) → Nat
  | [] => 0
  | d :: r => uptoBulk d + uptoBulkAll r
def uptoBulkEntries {H : Type} : List (Lit × DataW H) → Nat
  | [] => 0
  | x :: r => uptoBulkEntry x + uptoBulkEntries r
def uptoBulkEntry {H : Type} : Lit × DataW H → Nat
  | (.string bytes, d) => bytes.length + uptoBulk d + 1
  | (_, d) => uptoBulk d + 1
 end
def uptoSmall : (H : Type) → List (DataW H) → Bool := fun _ ds => decide (uptoBulkAll ds ≤ 1048576)
def OpenSpec.upto (s : _root_.Go.ChangeSpec) : _root_.Go.OpenSpec := { _root_.Go.OpenSpec.ofChange s with cond := some uptoSmall }

/-- 'headracelaw03.TimersSteps', WHERE WHAT IT READS IS OF BULK AT MOST 1048576: true; the input reads as it did. -/
def timersStepsUptoRow : OpenClaim := { program := "ytbbihkddogbicaa", sum := "579de33a6b6cd9f043719adbdf5e60d0f2f548b6051aedf1e7421fb594bf03b0", func := "headrace/headracelaw03.TimersSteps", spec := "timersSteps", unfollowed := true, recurses := true, apart := false, narrowed := true }
def TimersStepsUptoSaid : Prop := timersStepsUptoRow.holds Try.pinned (OpenSpec.upto timersStepsSpec)

/-- 'headracelaw03.TimersOrder', WHERE WHAT IT READS IS OF BULK AT MOST 1048576: true; the input reads as it did. -/
def timersOrderUptoRow : OpenClaim := { program := "ytbbihkddogbicaa", sum := "579de33a6b6cd9f043719adbdf5e60d0f2f548b6051aedf1e7421fb594bf03b0", func := "headrace/headracelaw03.TimersOrder", spec := "timersOrder", unfollowed := true, recurses := true, apart := false, narrowed := true }
def TimersOrderUptoSaid : Prop := timersOrderUptoRow.holds Try.pinned (OpenSpec.upto timersOrderSpec)

/-- 'headracelaw03.TimersStale', WHERE WHAT IT READS IS OF BULK AT MOST 1048576: true; the input reads as it did. -/
def timersStaleUptoRow : OpenClaim := { program := "ytbbihkddogbicaa", sum := "579de33a6b6cd9f043719adbdf5e60d0f2f548b6051aedf1e7421fb594bf03b0", func := "headrace/headracelaw03.TimersStale", spec := "timersStale", unfollowed := true, recurses := true, apart := false, narrowed := true }
def TimersStaleUptoSaid : Prop := timersStaleUptoRow.holds Try.pinned (OpenSpec.upto timersStaleSpec)

/-- 'headracelaw03.TimersNil', WHERE WHAT IT READS IS OF BULK AT MOST 1048576: true; the input reads as it did. -/
def timersNilUptoRow : OpenClaim := { program := "ytbbihkddogbicaa", sum := "579de33a6b6cd9f043719adbdf5e60d0f2f548b6051aedf1e7421fb594bf03b0", func := "headrace/headracelaw03.TimersNil", spec := "timersNil", unfollowed := true, recurses := true, apart := false, narrowed := true }
def TimersNilUptoSaid : Prop := timersNilUptoRow.holds Try.pinned (OpenSpec.upto timersNilSpec)

/-- 'headracelaw03.TimersNext', WHERE WHAT IT READS IS OF BULK AT MOST 1048576: true; the input reads as it did. -/
def timersNextUptoRow : OpenClaim := { program := "ytbbihkddogbicaa", sum := "579de33a6b6cd9f043719adbdf5e60d0f2f548b6051aedf1e7421fb594bf03b0", func := "headrace/headracelaw03.TimersNext", spec := "timersNext", unfollowed := true, recurses := true, apart := false, narrowed := true }
def TimersNextUptoSaid : Prop := timersNextUptoRow.holds Try.pinned (OpenSpec.upto timersNextSpec)

end Rows
end Go.Proofs.Ytbbihkddogbicaa
