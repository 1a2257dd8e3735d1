/- path.May by step's walk; what is left to it is strings.Index's contract. -/
import Derived.Test.YtdpfanifagfciaaDoorPathStp
import Derived.Test.YtdpfanifagfciaaDoorPathMay
namespace Go.Proofs.YtdpfanifagfciaaDoor
open Go.RowKit
/-- Is a text a path? -/
def mayP (p : ByteArray) : Bool := decide (p.size ≤ 96) && ((cutP p.data.toList).map pB).all stepB
theorem may_of (hIdx : ∀ (t : ByteArray) (W : World), Calls Tryd.prog 79 #[.string t, .string ⟨#[47]⟩] W fun e W' => e = .returned (.int .i64 (Lib.indexByte t.data.toList 47)) ∧ W' = W)
    (p : ByteArray) (w : World) : Calls Tryd.prog 24 #[.string p] w fun e w' => e = .returned (.bool (mayP p)) ∧ Below w.heap.size w w' :=
  may_in stepB (fun s W => (step_any s W).mono fun _ _ h => ⟨h.1, h.2.below⟩) hIdx p w
end Go.Proofs.YtdpfanifagfciaaDoor
