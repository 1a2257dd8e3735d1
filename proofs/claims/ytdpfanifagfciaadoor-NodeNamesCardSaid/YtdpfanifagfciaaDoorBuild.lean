/- A Builder's length. -/
import Derived.Test.YtdpfanifagfciaaDoorBuild1
import Derived.Test.YtdpfanifagfciaaDoorShelf
namespace Go.Proofs.YtdpfanifagfciaaDoor
open Go.RowKit
/-- Its length. -/
theorem blen_any (B b : Nat) (l : List UInt8) (w : World) (h : Bld B b l w) :
    Calls Tryd.prog 53 #[.pointer (some ⟨b, 0, none⟩)] w fun e w' => e = .returned (.int .i64 (l.length : Int)) ∧ w = w' :=
  (Sh.Builder_Len_f B b _ w h).mono fun _ _ ⟨h1, h2⟩ => ⟨by rw [h1, Lib.byteCells_length], h2.symm⟩
end Go.Proofs.YtdpfanifagfciaaDoor
