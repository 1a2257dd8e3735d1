/- A law's rows of texts opened. -/
import Derived.Test.YtdpfanifagfciaaDoorOpenSeq
namespace Go.Proofs.YtdpfanifagfciaaDoor
open Go.ChangeShapes Go.WideShapes Go.ChangeAt Go.RowKit Go.Deep
section
variable {H : Type} {enc : TypeId × Value → H} {W : World} {base : Nat}
set_option maxRecDepth 100000 in
theorem text_of {t : TypeId} (ht : Tryd.prog.underlying t = some .string) (n : Nat) (u : Value) (y : DataW H × List MemPlace) (h : DataW.trod enc Tryd.prog W 0 (fun _ => true) true n t [u] = some y) : ∃ x : ByteArray, IsText u x ∧ x.size ≤ 9223372036854775807 := by
  obtain ⟨s, hu, _, hs⟩ := DataW.trod_string ht h
  obtain rfl : u = .string s := by simpa using hu
  exact ⟨s, rfl, hs⟩
set_option maxRecDepth 100000 in
theorem open_strl {v : Value} {d : DataW H} {p : List MemPlace} (hv : Value.okWide Tryd.prog W .any base 31 v) (h : DataW.Trod enc Tryd.prog W 0 (fun _ => true) true 31 v d p) : ∃ l, SeqAt IsText W.heap v l := by
  obtain ⟨l, a, cap, e, hl, hel⟩ := open_seqT (R := fun u x => IsText u x ∧ x.size ≤ 9223372036854775807) Tryd.underlying31 (by kernel_rfl) (text_of Tryd.underlying9) hv h
  exact ⟨l, ⟨a, cap, e, hl, fun i hi => let ⟨b, off, u, e1, e2, e3⟩ := hel i hi; ⟨b, off, u, e1, e2, e3.1⟩⟩⟩
end
end Go.Proofs.YtdpfanifagfciaaDoor
