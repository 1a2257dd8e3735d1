/- What package solve tells, as plain functions. No program in sight. -/
import Derived.Test.YtllfhaocdknejaaDoorMay5
namespace Go.Proofs.YtllfhaocdknejaaDoor
def colsN (m : List (List UInt8)) : Nat := (m.headD []).length
def downM (m : List (List UInt8)) : List (List UInt8) × Int := if mayB 255 m then ((LA.dn m (colsN m)).1, 0) else ([], 4)
def rankM (m : List (List UInt8)) : Int × Int := if mayB 255 m then (((LA.dn m (colsN m)).2 : Int), 0) else (0, 4)
def unitRow (n i : Nat) : List UInt8 := (List.range n).map (oneAt i)
/-- A matrix, and beside it the one with 1 where row and column are the same. -/
def wideM (m : List (List UInt8)) : List (List UInt8) := LA.beside m (unitRow m.length)
def wideV (m : List (List UInt8)) (v : List UInt8) : List (List UInt8) := LA.beside m fun i => [v.getD i 0]
def turnOf (m : List (List UInt8)) : List (List UInt8) := (LA.dn (wideM m) (m.length + m.length)).1.map (List.drop m.length)
def turnM (m : List (List UInt8)) : List (List UInt8) × Int :=
  if mayB 255 m && decide (m.length = colsN m) then if (LA.dn m (colsN m)).2 < m.length then ([], 5) else (turnOf m, 0) else ([], 4)
def solveOf (m : List (List UInt8)) (v : List UInt8) : List UInt8 := (List.range m.length).map fun i => LA.at_ (LA.dn (wideV m v) (m.length + 1)).1 i m.length
def solveM (m : List (List UInt8)) (v : List UInt8) : List UInt8 × Int :=
  if (mayB 255 m && decide (m.length = colsN m)) && decide (v.length = m.length) then if (LA.dn m (colsN m)).2 < m.length then ([], 5) else (solveOf m v, 0) else ([], 4)
theorem unitRow_length (n i : Nat) : (unitRow n i).length = n := by unfold unitRow; simp
theorem unitRow_at {n i j : Nat} (hj : j < n) : (unitRow n i).getD j 0 = oneAt i j := range_at _ hj
theorem beside_length (m : LA.Mat) (s : Nat → List UInt8) : (LA.beside m s).length = m.length := LA.tab_length _ _
theorem beside_at {m : LA.Mat} {n : Nat} (h : LA.Rect m n) (s : Nat → List UInt8) {i j : Nat} (hi : i < m.length) : LA.at_ (LA.beside m s) i j = if j < n then LA.at_ m i j else (s i).getD (j - n) 0 := by
  have hl := LA.rect_row h hi
  show ((LA.tab m.length fun i => m.getD i [] ++ s i).getD i []).getD j 0 = _
  rw [LA.tab_row, if_pos hi]
  show (m.getD i [] ++ s i).getD j 0 = if j < n then (m.getD i []).getD j 0 else _
  generalize m.getD i [] = r at *
  rw [List.getD_eq_getElem?_getD, List.getD_eq_getElem?_getD, List.getD_eq_getElem?_getD]
  by_cases e : j < n
  · rw [if_pos e, List.getElem?_append_left (by omega)]
  · rw [if_neg e, List.getElem?_append_right (by omega), hl]
theorem rect_out {m : LA.Mat} {n i j : Nat} (h : LA.Rect m n) (hj : n ≤ j) : LA.at_ m i j = 0 := by
  by_cases hi : i < m.length
  · have := LA.rect_row h hi
    show (m.getD i []).getD j 0 = 0
    generalize m.getD i [] = r at *
    rw [List.getD_eq_getElem?_getD, List.getElem?_eq_none (by omega)]; rfl
  · exact LA.at_out (by omega)
theorem dn_len (m : LA.Mat) (c : Nat) : (LA.dn m c).1.length = m.length := (LA.dn_length m c).1
end Go.Proofs.YtllfhaocdknejaaDoor
