/- A law's matrices, rows of bytes and of numbers opened. -/
import Derived.Test.YtojdodbedemkoaaOpenSeq
namespace Go.Proofs.Ytojdodbedemkoaa
open Go.ChangeShapes Go.WideShapes Go.ChangeAt Go.RowKit Go.Deep
section
variable {H : Type} {enc : TypeId × Value → H} {W : World} {base : Nat}
theorem open_bytes {v : Value} {d : DataW H} {p : List MemPlace} (hv : Value.okWide Try.prog W .any base 33 v) (h : DataW.Trod enc Try.prog W 0 (fun _ => true) true 33 v d p) : ∃ l, RowAt W.heap v l :=
  open_seqT Try.underlying33 (by kernel_rfl) (byte_of Try.underlying5) hv h
theorem open_mat {v : Value} {d : DataW H} {p : List MemPlace} (hv : Value.okWide Try.prog W .any base 24 v) (h : DataW.Trod enc Try.prog W 0 (fun _ => true) true 24 v d p) : ∃ l, MatAt W.heap v l :=
  open_seqT Try.underlying24 (by kernel_rfl) (fun _ _ _ hu => open_seq1 Try.underlying33 (by kernel_rfl) (byte_of Try.underlying5) hu) hv h
end
end Go.Proofs.Ytojdodbedemkoaa
