/- Closed facts on matrices. No program in sight. -/
import Derived.Test.YtojdodbedemkoaaMatRows
namespace Go.Proofs.Ytojdodbedemkoaa
def exM : List (List UInt8) := [[1, 0], [0, 1], [142, 244], [244, 142]]
def exV : List UInt8 := [5, 7, 122, 142]
theorem ex_one : oneM 2 = ([[1, 0], [0, 1]], 0) := by decide +kernel
theorem ex_of : ofM 2 4 = (exM, 0) := by decide +kernel
theorem ex_rows : rowsM exM [1, 1] = ([[0, 1], [0, 1]], 0) := by decide +kernel
theorem ex_mul : mulM [[1, 2], [3, 4]] [[1, 2, 3]] = ([], 4) := by decide +kernel
theorem ex_inv2 : FM.inv 2 = 142 := by decide +kernel
theorem ex_inv3 : FM.inv 3 = 244 := by decide +kernel
theorem ex_vec : vecM exM [5, 7] = (exV, 0) := by decide +kernel
theorem ex_xor : FM.mul 142 5 ^^^ FM.mul 244 7 = 122 := by decide +kernel
end Go.Proofs.Ytojdodbedemkoaa
