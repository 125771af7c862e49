/-
  No cell of these rows narrows 'for every input' (looked for: loops, veiled, ifaces, maps, wideKeys, modest, calm, conditions, laid).
  DERIVED. THE GIVEN ROWS OF THIS SEAT. 5 by the template 'for every input the law returns true; each argument reads behind the call as it read before'; 0 by the template 'total and deterministic' (their statements: YtmpcffkandmacaaTotals.lean).
  GIVEN WITH THE SEED: the statements are not yours to turn. If you find one false, say at which input.
  Laid BY PROGRAM, IN A SANDBOX (cutbox-rows.mjs): the forced cells as the released guide's own fill.sh prints them over the translation c66589efd0b36f8e… (all of the seat's roots in one cut). By AI agents, Wed Nov 11 2026. No macro, syntax, notation, axiom, sorry.
-/
import Derived.Test.YtmpcffkandmacaaChecked
import GoSem.Claim
import GoSem.ClaimJoined
import GoSem.ClaimMapViews
import Derived.JoinedTies
import Derived.KernelRfl
namespace Go.Proofs.Ytmpcffkandmacaa
/- THE CELL 'sum', in the pinned program and in every row, IS THE sha256 OF THE DUMP (.gsa) THAT YtmpcffkandmacaaProg.lean LOADS. Nothing in Lean hashes anything: it is a label: what it is worth is what the hold of that sum in a sandbox is worth. -/
noncomputable def Try.pinned : Pinned := { name := "ytmpcffkandmacaa", sum := "c66589efd0b36f8edb1f87d65beef85be9ac14d8caff28143c48528b9efb4340", checked := Try.checked }
namespace Rows
def none {H : Type} : Left H := { results := [], args := [] }

/-- 'headracelaw22.PoolFair': WHATEVER THE INPUT: true; the input reads as it did. -/
def poolFairSpec : ChangeSpec := { name := "poolFair", fn := fun _ => fun
  | [d1, d2] => { results := [.lit (.bool true)], args := [d1, d2] }
  | _ => none }
def poolFairRow : OpenClaim := { program := "ytmpcffkandmacaa", sum := "c66589efd0b36f8edb1f87d65beef85be9ac14d8caff28143c48528b9efb4340", func := "headrace/headracelaw22.PoolFair", spec := "poolFair", unfollowed := true, recurses := true, apart := false }
def PoolFairSaid : Prop := poolFairRow.holds Try.pinned (OpenSpec.ofChange poolFairSpec)

/-- ITS FALSE NEIGHBOUR: 'it returns false'. Refute it at one input. -/
def poolFairWrong : ChangeSpec := { name := "poolFair", fn := fun _ => fun
  | [d1, d2] => { results := [.lit (.bool false)], args := [d1, d2] }
  | _ => none }
def PoolFairWrongFalsely : Prop := poolFairRow.holds Try.pinned (OpenSpec.ofChange poolFairWrong)

/-- 'headracelaw22.PoolNil': WHATEVER THE INPUT: true; the input reads as it did. -/
def poolNilSpec : ChangeSpec := { name := "poolNil", fn := fun _ => fun
  | [d1, d2] => { results := [.lit (.bool true)], args := [d1, d2] }
  | _ => none }
def poolNilRow : OpenClaim := { program := "ytmpcffkandmacaa", sum := "c66589efd0b36f8edb1f87d65beef85be9ac14d8caff28143c48528b9efb4340", func := "headrace/headracelaw22.PoolNil", spec := "poolNil", unfollowed := true, recurses := true, apart := false }
def PoolNilSaid : Prop := poolNilRow.holds Try.pinned (OpenSpec.ofChange poolNilSpec)

/-- ITS FALSE NEIGHBOUR: 'it returns false'. Refute it at one input. -/
def poolNilWrong : ChangeSpec := { name := "poolNil", fn := fun _ => fun
  | [d1, d2] => { results := [.lit (.bool false)], args := [d1, d2] }
  | _ => none }
def PoolNilWrongFalsely : Prop := poolNilRow.holds Try.pinned (OpenSpec.ofChange poolNilWrong)

/-- 'headracelaw22.PoolCaps': WHATEVER THE INPUT: true; the input reads as it did. -/
def poolCapsSpec : ChangeSpec := { name := "poolCaps", fn := fun _ => fun
  | [d1, d2] => { results := [.lit (.bool true)], args := [d1, d2] }
  | _ => none }
def poolCapsRow : OpenClaim := { program := "ytmpcffkandmacaa", sum := "c66589efd0b36f8edb1f87d65beef85be9ac14d8caff28143c48528b9efb4340", func := "headrace/headracelaw22.PoolCaps", spec := "poolCaps", unfollowed := true, recurses := true, apart := false }
def PoolCapsSaid : Prop := poolCapsRow.holds Try.pinned (OpenSpec.ofChange poolCapsSpec)

/-- ITS FALSE NEIGHBOUR: 'it returns false'. Refute it at one input. -/
def poolCapsWrong : ChangeSpec := { name := "poolCaps", fn := fun _ => fun
  | [d1, d2] => { results := [.lit (.bool false)], args := [d1, d2] }
  | _ => none }
def PoolCapsWrongFalsely : Prop := poolCapsRow.holds Try.pinned (OpenSpec.ofChange poolCapsWrong)

/-- 'headracelaw22.PoolAlone': WHATEVER THE INPUT: true; the input reads as it did. -/
def poolAloneSpec : ChangeSpec := { name := "poolAlone", fn := fun _ => fun
  | [d1, d2] => { results := [.lit (.bool true)], args := [d1, d2] }
  | _ => none }
def poolAloneRow : OpenClaim := { program := "ytmpcffkandmacaa", sum := "c66589efd0b36f8edb1f87d65beef85be9ac14d8caff28143c48528b9efb4340", func := "headrace/headracelaw22.PoolAlone", spec := "poolAlone", unfollowed := true, recurses := true, apart := false }
def PoolAloneSaid : Prop := poolAloneRow.holds Try.pinned (OpenSpec.ofChange poolAloneSpec)

/-- ITS FALSE NEIGHBOUR: 'it returns false'. Refute it at one input. -/
def poolAloneWrong : ChangeSpec := { name := "poolAlone", fn := fun _ => fun
  | [d1, d2] => { results := [.lit (.bool false)], args := [d1, d2] }
  | _ => none }
def PoolAloneWrongFalsely : Prop := poolAloneRow.holds Try.pinned (OpenSpec.ofChange poolAloneWrong)

/-- 'headracelaw22.PoolSteps': WHATEVER THE INPUT: true; the input reads as it did. -/
def poolStepsSpec : ChangeSpec := { name := "poolSteps", fn := fun _ => fun
  | [d1, d2] => { results := [.lit (.bool true)], args := [d1, d2] }
  | _ => none }
def poolStepsRow : OpenClaim := { program := "ytmpcffkandmacaa", sum := "c66589efd0b36f8edb1f87d65beef85be9ac14d8caff28143c48528b9efb4340", func := "headrace/headracelaw22.PoolSteps", spec := "poolSteps", unfollowed := true, recurses := true, apart := false }
def PoolStepsSaid : Prop := poolStepsRow.holds Try.pinned (OpenSpec.ofChange poolStepsSpec)

/-- ITS FALSE NEIGHBOUR: 'it returns false'. Refute it at one input. -/
def poolStepsWrong : ChangeSpec := { name := "poolSteps", fn := fun _ => fun
  | [d1, d2] => { results := [.lit (.bool false)], args := [d1, d2] }
  | _ => none }
def PoolStepsWrongFalsely : Prop := poolStepsRow.holds Try.pinned (OpenSpec.ofChange poolStepsWrong)

/- THE SECOND FORM. 'bulk': how many values and letters a reading holds, each counted each time it is reached (what is shared counts as often as it is met; a slice's spare places count too). A statement '..UptoSaid' is the law's where the arguments, and the package variables that the reading takes, are together of bulk at most 1048576: NARROWER than '..Said'. Prove '..Said' where nothing that the law and all that it calls make is longer than what came in: it says more and counts as full. Else prove '..UptoSaid'. A law counts once. -/
mutual
def uptoBulk {H : Type} : DataW H → Nat
  | .lit (.string bytes) => bytes.length + 1
  | .lit _ => 1
  | .nil => 1
  | .ptr d => uptoBulk d + 1
  | .slice elems spare => uptoBulkAll elems + uptoBulkAll spare + 1
  | .agg parts => uptoBulkAll parts + 1
  | .iface _ d => uptoBulk d + 1
  | .map entries => uptoBulkEntries entries + 1
  | .held _ => 1
def uptoBulkAll {H : Type} : List (DataW H) → Nat
  | [] => 0
  | d :: r => uptoBulk d + uptoBulkAll r
def uptoBulkEntries {H : Type} : List (Lit × DataW H) → Nat
  | [] => 0
  | x :: r => uptoBulkEntry x + uptoBulkEntries r
def uptoBulkEntry {H : Type} : Lit × DataW H → Nat
  | (.string bytes, d) => bytes.length + uptoBulk d + 1
  | (_, d) => uptoBulk d + 1
 end
def uptoSmall : (H : Type) → List (DataW H) → Bool := fun _ ds => decide (uptoBulkAll ds ≤ 1048576)
def OpenSpec.upto (s : _root_.Go.ChangeSpec) : _root_.Go.OpenSpec := { _root_.Go.OpenSpec.ofChange s with cond := some uptoSmall }

/-- 'headracelaw22.PoolFair', WHERE WHAT IT READS IS OF BULK AT MOST 1048576: true; the input reads as it did. -/
def poolFairUptoRow : OpenClaim := { program := "ytmpcffkandmacaa", sum := "c66589efd0b36f8edb1f87d65beef85be9ac14d8caff28143c48528b9efb4340", func := "headrace/headracelaw22.PoolFair", spec := "poolFair", unfollowed := true, recurses := true, apart := false, narrowed := true }
def PoolFairUptoSaid : Prop := poolFairUptoRow.holds Try.pinned (OpenSpec.upto poolFairSpec)

/-- 'headracelaw22.PoolNil', WHERE WHAT IT READS IS OF BULK AT MOST 1048576: true; the input reads as it did. -/
def poolNilUptoRow : OpenClaim := { program := "ytmpcffkandmacaa", sum := "c66589efd0b36f8edb1f87d65beef85be9ac14d8caff28143c48528b9efb4340", func := "headrace/headracelaw22.PoolNil", spec := "poolNil", unfollowed := true, recurses := true, apart := false, narrowed := true }
def PoolNilUptoSaid : Prop := poolNilUptoRow.holds Try.pinned (OpenSpec.upto poolNilSpec)

/-- 'headracelaw22.PoolCaps', WHERE WHAT IT READS IS OF BULK AT MOST 1048576: true; the input reads as it did. -/
def poolCapsUptoRow : OpenClaim := { program := "ytmpcffkandmacaa", sum := "c66589efd0b36f8edb1f87d65beef85be9ac14d8caff28143c48528b9efb4340", func := "headrace/headracelaw22.PoolCaps", spec := "poolCaps", unfollowed := true, recurses := true, apart := false, narrowed := true }
def PoolCapsUptoSaid : Prop := poolCapsUptoRow.holds Try.pinned (OpenSpec.upto poolCapsSpec)

/-- 'headracelaw22.PoolAlone', WHERE WHAT IT READS IS OF BULK AT MOST 1048576: true; the input reads as it did. -/
def poolAloneUptoRow : OpenClaim := { program := "ytmpcffkandmacaa", sum := "c66589efd0b36f8edb1f87d65beef85be9ac14d8caff28143c48528b9efb4340", func := "headrace/headracelaw22.PoolAlone", spec := "poolAlone", unfollowed := true, recurses := true, apart := false, narrowed := true }
def PoolAloneUptoSaid : Prop := poolAloneUptoRow.holds Try.pinned (OpenSpec.upto poolAloneSpec)

/-- 'headracelaw22.PoolSteps', WHERE WHAT IT READS IS OF BULK AT MOST 1048576: true; the input reads as it did. -/
def poolStepsUptoRow : OpenClaim := { program := "ytmpcffkandmacaa", sum := "c66589efd0b36f8edb1f87d65beef85be9ac14d8caff28143c48528b9efb4340", func := "headrace/headracelaw22.PoolSteps", spec := "poolSteps", unfollowed := true, recurses := true, apart := false, narrowed := true }
def PoolStepsUptoSaid : Prop := poolStepsUptoRow.holds Try.pinned (OpenSpec.upto poolStepsSpec)

end Rows
end Go.Proofs.Ytmpcffkandmacaa
