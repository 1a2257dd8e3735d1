/-
  No cell of these rows narrows 'for every input' (looked for: loops, veiled, ifaces, maps, wideKeys, modest, calm, conditions, laid).
  DERIVED. THE GIVEN ROWS OF THIS SEAT. 12 by the template 'for every input the law returns true; each argument reads behind the call as it read before'; 0 by the template 'total and deterministic' (their statements: YtojdodbedemkoaaTotals.lean).
  GIVEN WITH THE SEED: the statements are not yours to turn. If you find one false, say at which input.
  Laid BY PROGRAM, IN A SANDBOX (cutbox-rows.mjs): the forced cells as the released guide's own fill.sh prints them over the translation dfd3714fec561ae7… (all of the seat's roots in one cut). By AI agents, Wed Nov 11 2026. No macro, syntax, notation, axiom, sorry.
-/
import Derived.Test.YtojdodbedemkoaaChecked
import GoSem.Claim
import GoSem.ClaimJoined
import GoSem.ClaimMapViews
import Derived.JoinedTies
import Derived.KernelRfl
namespace Go.Proofs.Ytojdodbedemkoaa
/- THE CELL 'sum', in the pinned program and in every row, IS THE sha256 OF THE DUMP (.gsa) THAT YtojdodbedemkoaaProg.lean LOADS. Nothing in Lean hashes anything: it is a label: what it is worth is what the hold of that sum in a sandbox is worth. -/
noncomputable def Try.pinned : Pinned := { name := "ytojdodbedemkoaa", sum := "dfd3714fec561ae7acda468bdde0b28a0f8a85cac3aabb7d829762bcfff92cd9", checked := Try.checked }
namespace Rows
def none {H : Type} : Left H := { results := [], args := [] }

/-- 'strongboxlaw03.MatrixCodes': WHATEVER THE INPUT: true; the input reads as it did. -/
def matrixCodesSpec : ChangeSpec := { name := "matrixCodes", fn := fun _ => fun
  | [d1, d2] => { results := [.lit (.bool true)], args := [d1, d2] }
  | _ => none }
def matrixCodesRow : OpenClaim := { program := "ytojdodbedemkoaa", sum := "dfd3714fec561ae7acda468bdde0b28a0f8a85cac3aabb7d829762bcfff92cd9", func := "strongbox/strongboxlaw03.MatrixCodes", spec := "matrixCodes", unfollowed := true, recurses := true, apart := false }
def MatrixCodesSaid : Prop := matrixCodesRow.holds Try.pinned (OpenSpec.ofChange matrixCodesSpec)

/-- ITS FALSE NEIGHBOUR: 'it returns false'. Refute it at one input. -/
def matrixCodesWrong : ChangeSpec := { name := "matrixCodes", fn := fun _ => fun
  | [d1, d2] => { results := [.lit (.bool false)], args := [d1, d2] }
  | _ => none }
def MatrixCodesWrongFalsely : Prop := matrixCodesRow.holds Try.pinned (OpenSpec.ofChange matrixCodesWrong)

/-- 'strongboxlaw03.MatrixMakes': WHATEVER THE INPUT: true; the input reads as it did. -/
def matrixMakesSpec : ChangeSpec := { name := "matrixMakes", fn := fun _ => fun
  | [d1, d2, d3, d4] => { results := [.lit (.bool true)], args := [d1, d2, d3, d4] }
  | _ => none }
def matrixMakesRow : OpenClaim := { program := "ytojdodbedemkoaa", sum := "dfd3714fec561ae7acda468bdde0b28a0f8a85cac3aabb7d829762bcfff92cd9", func := "strongbox/strongboxlaw03.MatrixMakes", spec := "matrixMakes", unfollowed := true, recurses := true, apart := false }
def MatrixMakesSaid : Prop := matrixMakesRow.holds Try.pinned (OpenSpec.ofChange matrixMakesSpec)

/-- ITS FALSE NEIGHBOUR: 'it returns false'. Refute it at one input. -/
def matrixMakesWrong : ChangeSpec := { name := "matrixMakes", fn := fun _ => fun
  | [d1, d2, d3, d4] => { results := [.lit (.bool false)], args := [d1, d2, d3, d4] }
  | _ => none }
def MatrixMakesWrongFalsely : Prop := matrixMakesRow.holds Try.pinned (OpenSpec.ofChange matrixMakesWrong)

/-- 'strongboxlaw03.MatrixApart': WHATEVER THE INPUT: true; the input reads as it did. -/
def matrixApartSpec : ChangeSpec := { name := "matrixApart", fn := fun _ => fun
  | [d] => { results := [.lit (.bool true)], args := [d] }
  | _ => none }
def matrixApartRow : OpenClaim := { program := "ytojdodbedemkoaa", sum := "dfd3714fec561ae7acda468bdde0b28a0f8a85cac3aabb7d829762bcfff92cd9", func := "strongbox/strongboxlaw03.MatrixApart", spec := "matrixApart", unfollowed := true, recurses := true, apart := false }
def MatrixApartSaid : Prop := matrixApartRow.holds Try.pinned (OpenSpec.ofChange matrixApartSpec)

/-- ITS FALSE NEIGHBOUR: 'it returns false'. Refute it at one input. -/
def matrixApartWrong : ChangeSpec := { name := "matrixApart", fn := fun _ => fun
  | [d] => { results := [.lit (.bool false)], args := [d] }
  | _ => none }
def MatrixApartWrongFalsely : Prop := matrixApartRow.holds Try.pinned (OpenSpec.ofChange matrixApartWrong)

/-- 'strongboxlaw03.MatrixSums': WHATEVER THE INPUT: true; the input reads as it did. -/
def matrixSumsSpec : ChangeSpec := { name := "matrixSums", fn := fun _ => fun
  | [d1, d2, d3, d4] => { results := [.lit (.bool true)], args := [d1, d2, d3, d4] }
  | _ => none }
def matrixSumsRow : OpenClaim := { program := "ytojdodbedemkoaa", sum := "dfd3714fec561ae7acda468bdde0b28a0f8a85cac3aabb7d829762bcfff92cd9", func := "strongbox/strongboxlaw03.MatrixSums", spec := "matrixSums", unfollowed := true, recurses := true, apart := false }
def MatrixSumsSaid : Prop := matrixSumsRow.holds Try.pinned (OpenSpec.ofChange matrixSumsSpec)

/-- ITS FALSE NEIGHBOUR: 'it returns false'. Refute it at one input. -/
def matrixSumsWrong : ChangeSpec := { name := "matrixSums", fn := fun _ => fun
  | [d1, d2, d3, d4] => { results := [.lit (.bool false)], args := [d1, d2, d3, d4] }
  | _ => none }
def MatrixSumsWrongFalsely : Prop := matrixSumsRow.holds Try.pinned (OpenSpec.ofChange matrixSumsWrong)

/-- 'strongboxlaw04.SolveTurned': WHATEVER THE INPUT: true; the input reads as it did. -/
def solveTurnedSpec : ChangeSpec := { name := "solveTurned", fn := fun _ => fun
  | [d1, d2] => { results := [.lit (.bool true)], args := [d1, d2] }
  | _ => none }
def solveTurnedRow : OpenClaim := { program := "ytojdodbedemkoaa", sum := "dfd3714fec561ae7acda468bdde0b28a0f8a85cac3aabb7d829762bcfff92cd9", func := "strongbox/strongboxlaw04.SolveTurned", spec := "solveTurned", unfollowed := true, recurses := true, apart := false }
def SolveTurnedSaid : Prop := solveTurnedRow.holds Try.pinned (OpenSpec.ofChange solveTurnedSpec)

/-- ITS FALSE NEIGHBOUR: 'it returns false'. Refute it at one input. -/
def solveTurnedWrong : ChangeSpec := { name := "solveTurned", fn := fun _ => fun
  | [d1, d2] => { results := [.lit (.bool false)], args := [d1, d2] }
  | _ => none }
def SolveTurnedWrongFalsely : Prop := solveTurnedRow.holds Try.pinned (OpenSpec.ofChange solveTurnedWrong)

/-- 'strongboxlaw04.SolveProduct': WHATEVER THE INPUT: true; the input reads as it did. -/
def solveProductSpec : ChangeSpec := { name := "solveProduct", fn := fun _ => fun
  | [d1, d2] => { results := [.lit (.bool true)], args := [d1, d2] }
  | _ => none }
def solveProductRow : OpenClaim := { program := "ytojdodbedemkoaa", sum := "dfd3714fec561ae7acda468bdde0b28a0f8a85cac3aabb7d829762bcfff92cd9", func := "strongbox/strongboxlaw04.SolveProduct", spec := "solveProduct", unfollowed := true, recurses := true, apart := false }
def SolveProductSaid : Prop := solveProductRow.holds Try.pinned (OpenSpec.ofChange solveProductSpec)

/-- ITS FALSE NEIGHBOUR: 'it returns false'. Refute it at one input. -/
def solveProductWrong : ChangeSpec := { name := "solveProduct", fn := fun _ => fun
  | [d1, d2] => { results := [.lit (.bool false)], args := [d1, d2] }
  | _ => none }
def SolveProductWrongFalsely : Prop := solveProductRow.holds Try.pinned (OpenSpec.ofChange solveProductWrong)

/-- 'strongboxlaw04.SolveTells': WHATEVER THE INPUT: true; the input reads as it did. -/
def solveTellsSpec : ChangeSpec := { name := "solveTells", fn := fun _ => fun
  | [d1, d2] => { results := [.lit (.bool true)], args := [d1, d2] }
  | _ => none }
def solveTellsRow : OpenClaim := { program := "ytojdodbedemkoaa", sum := "dfd3714fec561ae7acda468bdde0b28a0f8a85cac3aabb7d829762bcfff92cd9", func := "strongbox/strongboxlaw04.SolveTells", spec := "solveTells", unfollowed := true, recurses := true, apart := false }
def SolveTellsSaid : Prop := solveTellsRow.holds Try.pinned (OpenSpec.ofChange solveTellsSpec)

/-- ITS FALSE NEIGHBOUR: 'it returns false'. Refute it at one input. -/
def solveTellsWrong : ChangeSpec := { name := "solveTells", fn := fun _ => fun
  | [d1, d2] => { results := [.lit (.bool false)], args := [d1, d2] }
  | _ => none }
def SolveTellsWrongFalsely : Prop := solveTellsRow.holds Try.pinned (OpenSpec.ofChange solveTellsWrong)

/-- 'strongboxlaw04.SolveNames': WHATEVER THE INPUT: true; the input reads as it did. -/
def solveNamesSpec : ChangeSpec := { name := "solveNames", fn := fun _ => fun
  | [] => { results := [.lit (.bool true)], args := [] }
  | _ => none }
def solveNamesRow : OpenClaim := { program := "ytojdodbedemkoaa", sum := "dfd3714fec561ae7acda468bdde0b28a0f8a85cac3aabb7d829762bcfff92cd9", func := "strongbox/strongboxlaw04.SolveNames", spec := "solveNames", unfollowed := true, recurses := true, apart := false }
def SolveNamesSaid : Prop := solveNamesRow.holds Try.pinned (OpenSpec.ofChange solveNamesSpec)

/-- ITS FALSE NEIGHBOUR: 'it returns false'. Refute it at one input. -/
def solveNamesWrong : ChangeSpec := { name := "solveNames", fn := fun _ => fun
  | [] => { results := [.lit (.bool false)], args := [] }
  | _ => none }
def SolveNamesWrongFalsely : Prop := solveNamesRow.holds Try.pinned (OpenSpec.ofChange solveNamesWrong)

/-- 'strongboxlaw04.SolveDown': WHATEVER THE INPUT: true; the input reads as it did. -/
def solveDownSpec : ChangeSpec := { name := "solveDown", fn := fun _ => fun
  | [d] => { results := [.lit (.bool true)], args := [d] }
  | _ => none }
def solveDownRow : OpenClaim := { program := "ytojdodbedemkoaa", sum := "dfd3714fec561ae7acda468bdde0b28a0f8a85cac3aabb7d829762bcfff92cd9", func := "strongbox/strongboxlaw04.SolveDown", spec := "solveDown", unfollowed := true, recurses := true, apart := false }
def SolveDownSaid : Prop := solveDownRow.holds Try.pinned (OpenSpec.ofChange solveDownSpec)

/-- ITS FALSE NEIGHBOUR: 'it returns false'. Refute it at one input. -/
def solveDownWrong : ChangeSpec := { name := "solveDown", fn := fun _ => fun
  | [d] => { results := [.lit (.bool false)], args := [d] }
  | _ => none }
def SolveDownWrongFalsely : Prop := solveDownRow.holds Try.pinned (OpenSpec.ofChange solveDownWrong)

/-- 'strongboxlaw03.MatrixNames': WHATEVER THE INPUT: true; the input reads as it did. -/
def matrixNamesSpec : ChangeSpec := { name := "matrixNames", fn := fun _ => fun
  | [] => { results := [.lit (.bool true)], args := [] }
  | _ => none }
def matrixNamesRow : OpenClaim := { program := "ytojdodbedemkoaa", sum := "dfd3714fec561ae7acda468bdde0b28a0f8a85cac3aabb7d829762bcfff92cd9", func := "strongbox/strongboxlaw03.MatrixNames", spec := "matrixNames", unfollowed := true, recurses := true, apart := false }
def MatrixNamesSaid : Prop := matrixNamesRow.holds Try.pinned (OpenSpec.ofChange matrixNamesSpec)

/-- ITS FALSE NEIGHBOUR: 'it returns false'. Refute it at one input. -/
def matrixNamesWrong : ChangeSpec := { name := "matrixNames", fn := fun _ => fun
  | [] => { results := [.lit (.bool false)], args := [] }
  | _ => none }
def MatrixNamesWrongFalsely : Prop := matrixNamesRow.holds Try.pinned (OpenSpec.ofChange matrixNamesWrong)

/-- 'strongboxlaw03.MatrixOrder': WHATEVER THE INPUT: true; the input reads as it did. -/
def matrixOrderSpec : ChangeSpec := { name := "matrixOrder", fn := fun _ => fun
  | [d1, d2, d3, d4, d5] => { results := [.lit (.bool true)], args := [d1, d2, d3, d4, d5] }
  | _ => none }
def matrixOrderRow : OpenClaim := { program := "ytojdodbedemkoaa", sum := "dfd3714fec561ae7acda468bdde0b28a0f8a85cac3aabb7d829762bcfff92cd9", func := "strongbox/strongboxlaw03.MatrixOrder", spec := "matrixOrder", unfollowed := true, recurses := true, apart := false }
def MatrixOrderSaid : Prop := matrixOrderRow.holds Try.pinned (OpenSpec.ofChange matrixOrderSpec)

/-- ITS FALSE NEIGHBOUR: 'it returns false'. Refute it at one input. -/
def matrixOrderWrong : ChangeSpec := { name := "matrixOrder", fn := fun _ => fun
  | [d1, d2, d3, d4, d5] => { results := [.lit (.bool false)], args := [d1, d2, d3, d4, d5] }
  | _ => none }
def MatrixOrderWrongFalsely : Prop := matrixOrderRow.holds Try.pinned (OpenSpec.ofChange matrixOrderWrong)

/-- 'strongboxlaw03.MatrixPicked': WHATEVER THE INPUT: true; the input reads as it did. -/
def matrixPickedSpec : ChangeSpec := { name := "matrixPicked", fn := fun _ => fun
  | [d1, d2, d3] => { results := [.lit (.bool true)], args := [d1, d2, d3] }
  | _ => none }
def matrixPickedRow : OpenClaim := { program := "ytojdodbedemkoaa", sum := "dfd3714fec561ae7acda468bdde0b28a0f8a85cac3aabb7d829762bcfff92cd9", func := "strongbox/strongboxlaw03.MatrixPicked", spec := "matrixPicked", unfollowed := true, recurses := true, apart := false }
def MatrixPickedSaid : Prop := matrixPickedRow.holds Try.pinned (OpenSpec.ofChange matrixPickedSpec)

/-- ITS FALSE NEIGHBOUR: 'it returns false'. Refute it at one input. -/
def matrixPickedWrong : ChangeSpec := { name := "matrixPicked", fn := fun _ => fun
  | [d1, d2, d3] => { results := [.lit (.bool false)], args := [d1, d2, d3] }
  | _ => none }
def MatrixPickedWrongFalsely : Prop := matrixPickedRow.holds Try.pinned (OpenSpec.ofChange matrixPickedWrong)

/- THE SECOND FORM. 'bulk': how many values and letters a reading holds, each counted each time it is reached (what is shared counts as often as it is met; a slice's spare places count too). A statement '..UptoSaid' is the law's where the arguments, and the package variables that the reading takes, are together of bulk at most 1048576: NARROWER than '..Said'. Prove '..Said' where nothing that the law and all that it calls make is longer than what came in: it says more and counts as full. Else prove '..UptoSaid'. A law counts once. -/
mutual
def uptoBulk {H : Type} : DataW H → Nat
  | .lit (.string bytes) => bytes.length + 1
  | .lit _ => 1
  | .nil => 1
  | .ptr d => uptoBulk d + 1
  | .slice elems spare => uptoBulkAll elems + uptoBulkAll spare + 1
  | .agg parts => uptoBulkAll parts + 1
  | .iface _ d => uptoBulk d + 1
  | .map entries => uptoBulkEntries entries + 1
  | .held _ => 1
def uptoBulkAll {H : Type} : List (DataW H) → Nat
  | [] => 0
  | d :: r => uptoBulk d + uptoBulkAll r
def uptoBulkEntries {H : Type} : List (Lit × DataW H) → Nat
  | [] => 0
  | x :: r => uptoBulkEntry x + uptoBulkEntries r
def uptoBulkEntry {H : Type} : Lit × DataW H → Nat
  | (.string bytes, d) => bytes.length + uptoBulk d + 1
  | (_, d) => uptoBulk d + 1
 end
def uptoSmall : (H : Type) → List (DataW H) → Bool := fun _ ds => decide (uptoBulkAll ds ≤ 1048576)
def OpenSpec.upto (s : _root_.Go.ChangeSpec) : _root_.Go.OpenSpec := { _root_.Go.OpenSpec.ofChange s with cond := some uptoSmall }

/-- 'strongboxlaw03.MatrixCodes', WHERE WHAT IT READS IS OF BULK AT MOST 1048576: true; the input reads as it did. -/
def matrixCodesUptoRow : OpenClaim := { program := "ytojdodbedemkoaa", sum := "dfd3714fec561ae7acda468bdde0b28a0f8a85cac3aabb7d829762bcfff92cd9", func := "strongbox/strongboxlaw03.MatrixCodes", spec := "matrixCodes", unfollowed := true, recurses := true, apart := false, narrowed := true }
def MatrixCodesUptoSaid : Prop := matrixCodesUptoRow.holds Try.pinned (OpenSpec.upto matrixCodesSpec)

/-- 'strongboxlaw03.MatrixMakes', WHERE WHAT IT READS IS OF BULK AT MOST 1048576: true; the input reads as it did. -/
def matrixMakesUptoRow : OpenClaim := { program := "ytojdodbedemkoaa", sum := "dfd3714fec561ae7acda468bdde0b28a0f8a85cac3aabb7d829762bcfff92cd9", func := "strongbox/strongboxlaw03.MatrixMakes", spec := "matrixMakes", unfollowed := true, recurses := true, apart := false, narrowed := true }
def MatrixMakesUptoSaid : Prop := matrixMakesUptoRow.holds Try.pinned (OpenSpec.upto matrixMakesSpec)

/-- 'strongboxlaw03.MatrixApart', WHERE WHAT IT READS IS OF BULK AT MOST 1048576: true; the input reads as it did. -/
def matrixApartUptoRow : OpenClaim := { program := "ytojdodbedemkoaa", sum := "dfd3714fec561ae7acda468bdde0b28a0f8a85cac3aabb7d829762bcfff92cd9", func := "strongbox/strongboxlaw03.MatrixApart", spec := "matrixApart", unfollowed := true, recurses := true, apart := false, narrowed := true }
def MatrixApartUptoSaid : Prop := matrixApartUptoRow.holds Try.pinned (OpenSpec.upto matrixApartSpec)

/-- 'strongboxlaw03.MatrixSums', WHERE WHAT IT READS IS OF BULK AT MOST 1048576: true; the input reads as it did. -/
def matrixSumsUptoRow : OpenClaim := { program := "ytojdodbedemkoaa", sum := "dfd3714fec561ae7acda468bdde0b28a0f8a85cac3aabb7d829762bcfff92cd9", func := "strongbox/strongboxlaw03.MatrixSums", spec := "matrixSums", unfollowed := true, recurses := true, apart := false, narrowed := true }
def MatrixSumsUptoSaid : Prop := matrixSumsUptoRow.holds Try.pinned (OpenSpec.upto matrixSumsSpec)

/-- 'strongboxlaw04.SolveTurned', WHERE WHAT IT READS IS OF BULK AT MOST 1048576: true; the input reads as it did. -/
def solveTurnedUptoRow : OpenClaim := { program := "ytojdodbedemkoaa", sum := "dfd3714fec561ae7acda468bdde0b28a0f8a85cac3aabb7d829762bcfff92cd9", func := "strongbox/strongboxlaw04.SolveTurned", spec := "solveTurned", unfollowed := true, recurses := true, apart := false, narrowed := true }
def SolveTurnedUptoSaid : Prop := solveTurnedUptoRow.holds Try.pinned (OpenSpec.upto solveTurnedSpec)

/-- 'strongboxlaw04.SolveProduct', WHERE WHAT IT READS IS OF BULK AT MOST 1048576: true; the input reads as it did. -/
def solveProductUptoRow : OpenClaim := { program := "ytojdodbedemkoaa", sum := "dfd3714fec561ae7acda468bdde0b28a0f8a85cac3aabb7d829762bcfff92cd9", func := "strongbox/strongboxlaw04.SolveProduct", spec := "solveProduct", unfollowed := true, recurses := true, apart := false, narrowed := true }
def SolveProductUptoSaid : Prop := solveProductUptoRow.holds Try.pinned (OpenSpec.upto solveProductSpec)

/-- 'strongboxlaw04.SolveTells', WHERE WHAT IT READS IS OF BULK AT MOST 1048576: true; the input reads as it did. -/
def solveTellsUptoRow : OpenClaim := { program := "ytojdodbedemkoaa", sum := "dfd3714fec561ae7acda468bdde0b28a0f8a85cac3aabb7d829762bcfff92cd9", func := "strongbox/strongboxlaw04.SolveTells", spec := "solveTells", unfollowed := true, recurses := true, apart := false, narrowed := true }
def SolveTellsUptoSaid : Prop := solveTellsUptoRow.holds Try.pinned (OpenSpec.upto solveTellsSpec)

/-- 'strongboxlaw04.SolveNames', WHERE WHAT IT READS IS OF BULK AT MOST 1048576: true; the input reads as it did. -/
def solveNamesUptoRow : OpenClaim := { program := "ytojdodbedemkoaa", sum := "dfd3714fec561ae7acda468bdde0b28a0f8a85cac3aabb7d829762bcfff92cd9", func := "strongbox/strongboxlaw04.SolveNames", spec := "solveNames", unfollowed := true, recurses := true, apart := false, narrowed := true }
def SolveNamesUptoSaid : Prop := solveNamesUptoRow.holds Try.pinned (OpenSpec.upto solveNamesSpec)

/-- 'strongboxlaw04.SolveDown', WHERE WHAT IT READS IS OF BULK AT MOST 1048576: true; the input reads as it did. -/
def solveDownUptoRow : OpenClaim := { program := "ytojdodbedemkoaa", sum := "dfd3714fec561ae7acda468bdde0b28a0f8a85cac3aabb7d829762bcfff92cd9", func := "strongbox/strongboxlaw04.SolveDown", spec := "solveDown", unfollowed := true, recurses := true, apart := false, narrowed := true }
def SolveDownUptoSaid : Prop := solveDownUptoRow.holds Try.pinned (OpenSpec.upto solveDownSpec)

/-- 'strongboxlaw03.MatrixNames', WHERE WHAT IT READS IS OF BULK AT MOST 1048576: true; the input reads as it did. -/
def matrixNamesUptoRow : OpenClaim := { program := "ytojdodbedemkoaa", sum := "dfd3714fec561ae7acda468bdde0b28a0f8a85cac3aabb7d829762bcfff92cd9", func := "strongbox/strongboxlaw03.MatrixNames", spec := "matrixNames", unfollowed := true, recurses := true, apart := false, narrowed := true }
def MatrixNamesUptoSaid : Prop := matrixNamesUptoRow.holds Try.pinned (OpenSpec.upto matrixNamesSpec)

/-- 'strongboxlaw03.MatrixOrder', WHERE WHAT IT READS IS OF BULK AT MOST 1048576: true; the input reads as it did. -/
def matrixOrderUptoRow : OpenClaim := { program := "ytojdodbedemkoaa", sum := "dfd3714fec561ae7acda468bdde0b28a0f8a85cac3aabb7d829762bcfff92cd9", func := "strongbox/strongboxlaw03.MatrixOrder", spec := "matrixOrder", unfollowed := true, recurses := true, apart := false, narrowed := true }
def MatrixOrderUptoSaid : Prop := matrixOrderUptoRow.holds Try.pinned (OpenSpec.upto matrixOrderSpec)

/-- 'strongboxlaw03.MatrixPicked', WHERE WHAT IT READS IS OF BULK AT MOST 1048576: true; the input reads as it did. -/
def matrixPickedUptoRow : OpenClaim := { program := "ytojdodbedemkoaa", sum := "dfd3714fec561ae7acda468bdde0b28a0f8a85cac3aabb7d829762bcfff92cd9", func := "strongbox/strongboxlaw03.MatrixPicked", spec := "matrixPicked", unfollowed := true, recurses := true, apart := false, narrowed := true }
def MatrixPickedUptoSaid : Prop := matrixPickedUptoRow.holds Try.pinned (OpenSpec.upto matrixPickedSpec)

end Rows
end Go.Proofs.Ytojdodbedemkoaa
