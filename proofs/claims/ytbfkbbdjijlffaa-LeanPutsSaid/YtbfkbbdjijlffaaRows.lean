/-
  No cell of these rows narrows 'for every input' (looked for: loops, veiled, ifaces, maps, wideKeys, modest, calm, conditions, laid).
  DERIVED. THE GIVEN ROWS OF THIS SEAT. 3 by the template 'for every input the law returns true; each argument reads behind the call as it read before'; 0 by the template 'total and deterministic' (their statements: YtbfkbbdjijlffaaTotals.lean).
  GIVEN WITH THE SEED: the statements are not yours to turn. If you find one false, say at which input.
  Laid BY PROGRAM, IN A SANDBOX (cutbox-rows.mjs): the forced cells as the released guide's own fill.sh prints them over the translation 4e6f5315b757d472… (all of the seat's roots in one cut). By AI agents, Wed Nov 11 2026. No macro, syntax, notation, axiom, sorry.
-/
import Derived.Test.YtbfkbbdjijlffaaChecked
import GoSem.Claim
import GoSem.ClaimJoined
import GoSem.ClaimMapViews
import Derived.JoinedTies
import Derived.KernelRfl
namespace Go.Proofs.Ytbfkbbdjijlffaa
/- THE CELL 'sum', in the pinned program and in every row, IS THE sha256 OF THE DUMP (.gsa) THAT YtbfkbbdjijlffaaProg.lean LOADS. Nothing in Lean hashes anything: it is a label: what it is worth is what the hold of that sum in a sandbox is worth. -/
noncomputable def Try.pinned : Pinned := { name := "ytbfkbbdjijlffaa", sum := "4e6f5315b757d4723a08463db8ecd271073a1698f262e9b3c652fe244f44614a", checked := Try.checked }
namespace Rows
def none {H : Type} : Left H := { results := [], args := [] }

/-- 'rescindlaw25.LeanSpins': WHATEVER THE INPUT: true; the input reads as it did. -/
def leanSpinsSpec : ChangeSpec := { name := "leanSpins", fn := fun _ => fun
  | [d1, d2] => { results := [.lit (.bool true)], args := [d1, d2] }
  | _ => none }
def leanSpinsRow : OpenClaim := { program := "ytbfkbbdjijlffaa", sum := "4e6f5315b757d4723a08463db8ecd271073a1698f262e9b3c652fe244f44614a", func := "rescind/rescindlaw25.LeanSpins", spec := "leanSpins", apart := false }
def LeanSpinsSaid : Prop := leanSpinsRow.holds Try.pinned (OpenSpec.ofChange leanSpinsSpec)

/-- ITS FALSE NEIGHBOUR: 'it returns false'. Refute it at one input. -/
def leanSpinsWrong : ChangeSpec := { name := "leanSpins", fn := fun _ => fun
  | [d1, d2] => { results := [.lit (.bool false)], args := [d1, d2] }
  | _ => none }
def LeanSpinsWrongFalsely : Prop := leanSpinsRow.holds Try.pinned (OpenSpec.ofChange leanSpinsWrong)

/-- 'rescindlaw25.LeanPuts': WHATEVER THE INPUT: true; the input reads as it did. -/
def leanPutsSpec : ChangeSpec := { name := "leanPuts", fn := fun _ => fun
  | [d1, d2] => { results := [.lit (.bool true)], args := [d1, d2] }
  | _ => none }
def leanPutsRow : OpenClaim := { program := "ytbfkbbdjijlffaa", sum := "4e6f5315b757d4723a08463db8ecd271073a1698f262e9b3c652fe244f44614a", func := "rescind/rescindlaw25.LeanPuts", spec := "leanPuts", apart := false }
def LeanPutsSaid : Prop := leanPutsRow.holds Try.pinned (OpenSpec.ofChange leanPutsSpec)

/-- ITS FALSE NEIGHBOUR: 'it returns false'. Refute it at one input. -/
def leanPutsWrong : ChangeSpec := { name := "leanPuts", fn := fun _ => fun
  | [d1, d2] => { results := [.lit (.bool false)], args := [d1, d2] }
  | _ => none }
def LeanPutsWrongFalsely : Prop := leanPutsRow.holds Try.pinned (OpenSpec.ofChange leanPutsWrong)

/-- 'rescindlaw25.LeanUndo': WHATEVER THE INPUT: true; the input reads as it did. -/
def leanUndoSpec : ChangeSpec := { name := "leanUndo", fn := fun _ => fun
  | [d1, d2] => { results := [.lit (.bool true)], args := [d1, d2] }
  | _ => none }
def leanUndoRow : OpenClaim := { program := "ytbfkbbdjijlffaa", sum := "4e6f5315b757d4723a08463db8ecd271073a1698f262e9b3c652fe244f44614a", func := "rescind/rescindlaw25.LeanUndo", spec := "leanUndo", apart := false }
def LeanUndoSaid : Prop := leanUndoRow.holds Try.pinned (OpenSpec.ofChange leanUndoSpec)

/-- ITS FALSE NEIGHBOUR: 'it returns false'. Refute it at one input. -/
def leanUndoWrong : ChangeSpec := { name := "leanUndo", fn := fun _ => fun
  | [d1, d2] => { results := [.lit (.bool false)], args := [d1, d2] }
  | _ => none }
def LeanUndoWrongFalsely : Prop := leanUndoRow.holds Try.pinned (OpenSpec.ofChange leanUndoWrong)

/- THE SECOND FORM. 'bulk': how many values and letters a reading holds, each counted each time it is reached (what is shared counts as often as it is met; a slice's spare places count too). A statement '..UptoSaid' is the law's where the arguments, and the package variables that the reading takes, are together of bulk at most 1048576: NARROWER than '..Said'. Prove '..Said' where nothing that the law and all that it calls make is longer than what came in: it says more and counts as full. Else prove '..UptoSaid'. A law counts once. -/
mutual
def uptoBulk {H : Type} : DataW H → Nat
  | .lit (.string bytes) => bytes.length + 1
  | .lit _ => 1
  | .nil => 1
  | .ptr d => uptoBulk d + 1
  | .slice elems spare => uptoBulkAll elems + uptoBulkAll spare + 1
  | .agg parts => uptoBulkAll parts + 1
  | .iface _ d => uptoBulk d + 1
  | .map entries => uptoBulkEntries entries + 1
  | .held _ => 1
def uptoBulkAll {H : Type} : List (DataW H) → Nat
  | [] => 0
  | d :: r => uptoBulk d + uptoBulkAll r
def uptoBulkEntries {H : Type} : List (Lit × DataW H) → Nat
  | [] => 0
  | x :: r => uptoBulkEntry x + uptoBulkEntries r
def uptoBulkEntry {H : Type} : Lit × DataW H → Nat
  | (.string bytes, d) => bytes.length + uptoBulk d + 1
  | (_, d) => uptoBulk d + 1
 end
def uptoSmall : (H : Type) → List (DataW H) → Bool := fun _ ds => decide (uptoBulkAll ds ≤ 1048576)
def OpenSpec.upto (s : _root_.Go.ChangeSpec) : _root_.Go.OpenSpec := { _root_.Go.OpenSpec.ofChange s with cond := some uptoSmall }

/-- 'rescindlaw25.LeanSpins', WHERE WHAT IT READS IS OF BULK AT MOST 1048576: true; the input reads as it did. -/
def leanSpinsUptoRow : OpenClaim := { program := "ytbfkbbdjijlffaa", sum := "4e6f5315b757d4723a08463db8ecd271073a1698f262e9b3c652fe244f44614a", func := "rescind/rescindlaw25.LeanSpins", spec := "leanSpins", apart := false, narrowed := true }
def LeanSpinsUptoSaid : Prop := leanSpinsUptoRow.holds Try.pinned (OpenSpec.upto leanSpinsSpec)

/-- 'rescindlaw25.LeanPuts', WHERE WHAT IT READS IS OF BULK AT MOST 1048576: true; the input reads as it did. -/
def leanPutsUptoRow : OpenClaim := { program := "ytbfkbbdjijlffaa", sum := "4e6f5315b757d4723a08463db8ecd271073a1698f262e9b3c652fe244f44614a", func := "rescind/rescindlaw25.LeanPuts", spec := "leanPuts", apart := false, narrowed := true }
def LeanPutsUptoSaid : Prop := leanPutsUptoRow.holds Try.pinned (OpenSpec.upto leanPutsSpec)

/-- 'rescindlaw25.LeanUndo', WHERE WHAT IT READS IS OF BULK AT MOST 1048576: true; the input reads as it did. -/
def leanUndoUptoRow : OpenClaim := { program := "ytbfkbbdjijlffaa", sum := "4e6f5315b757d4723a08463db8ecd271073a1698f262e9b3c652fe244f44614a", func := "rescind/rescindlaw25.LeanUndo", spec := "leanUndo", apart := false, narrowed := true }
def LeanUndoUptoSaid : Prop := leanUndoUptoRow.holds Try.pinned (OpenSpec.upto leanUndoSpec)

end Rows
end Go.Proofs.Ytbfkbbdjijlffaa
