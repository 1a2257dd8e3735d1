/- Closed facts on inverses. No program in sight. -/
import Derived.Test.YtojdodbedemkoaaSolSpec
namespace Go.Proofs.Ytojdodbedemkoaa
theorem ex_turn1 : turnM [[1, 1], [0, 1]] = ([[1, 1], [0, 1]], 0) := by decide +kernel
theorem ex_turn2 : turnM [[1, 1], [1, 1]] = ([], 5) := by decide +kernel
theorem ex_turn3 : turnM [[2]] = ([[142]], 0) := by decide +kernel
theorem ex_rank : rankM [[1, 1], [1, 1]] = (1, 0) := by decide +kernel
theorem ex_solve : solveM [[1, 1], [0, 1]] [3, 1] = ([2, 1], 0) := by decide +kernel
end Go.Proofs.Ytojdodbedemkoaa
