/- What package matrix tells, as plain functions. No program in sight. -/
import Derived.Test.YtllfhaocdknejaaDoorText
import Derived.Test.YtllfhaocdknejaaDoorLin
namespace Go.Proofs.YtllfhaocdknejaaDoor
open Go.RowKit

/-- May a code be? -/
def codeB (k n : Int) : Bool := decide (1 ≤ k ∧ k ≤ n ∧ n ≤ 12)
/-- The matrix of what a function says. -/
def matOf (rows cols : Nat) (g : Nat → Nat → UInt8) : List (List UInt8) := (List.range rows).map fun i => (List.range cols).map (g i)
def oneAt (i j : Nat) : UInt8 := if i = j then 1 else 0
/-- A code's matrix at row i, column j. -/
def codeAt (k : Nat) (i j : Nat) : UInt8 := if i < k then oneAt i j else LA.inv (UInt8.ofNat (i ^^^ j))

/-- A code's matrix, or how it is refused. -/
def ofM (k n : Int) : List (List UInt8) × Int := if codeB k n then (matOf n.toNat k.toNat (codeAt k.toNat), 0) else ([], 1)
def oneM (n : Int) : List (List UInt8) × Int := if decide (1 ≤ n ∧ n ≤ 12) then (matOf n.toNat n.toNat oneAt, 0) else ([], 1)
/-- What a call hands back: a matrix in new memory, and an error's number. -/
def GiveMat (w : World) (r : List (List UInt8) × Int) (e : Ending) (w' : World) : Prop := ∃ v, e = .returned (.tuple #[v, .int .i64 r.2]) ∧ MatIn (w.heap.size ≤ ·) w'.heap v r.1 ∧ Keeps w w'
/-- A list of bytes in new memory, and an error's number. -/
def GiveRow (w : World) (r : List UInt8 × Int) (e : Ending) (w' : World) : Prop := ∃ v, e = .returned (.tuple #[v, .int .i64 r.2]) ∧ RowIn (w.heap.size ≤ ·) w'.heap v r.1 ∧ Keeps w w'
theorem GiveMat.err {w w' : World} {r : Int} (k : Keeps w w') : GiveMat w ([], r) (.returned (.tuple #[.slice none 0 0, .int .i64 r])) w' := ⟨_, rfl, SeqIn.nil _ _ _ _, k⟩
theorem GiveRow.err {w w' : World} {r : Int} (k : Keeps w w') : GiveRow w ([], r) (.returned (.tuple #[.slice none 0 0, .int .i64 r])) w' := ⟨_, rfl, SeqIn.nil _ _ _ _, k⟩
end Go.Proofs.YtllfhaocdknejaaDoor
