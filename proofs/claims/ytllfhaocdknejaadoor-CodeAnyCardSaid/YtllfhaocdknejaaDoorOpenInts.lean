/- A law's rows of numbers opened. -/
import Derived.Test.YtllfhaocdknejaaDoorOpenSeq
namespace Go.Proofs.YtllfhaocdknejaaDoor
open Go.ChangeShapes Go.WideShapes Go.ChangeAt Go.RowKit Go.Deep
section
variable {H : Type} {enc : TypeId × Value → H} {W : World} {base : Nat}
/-- A row of numbers. -/
def IntsAt (h : Array Obj) (v : Value) (l : List Int) : Prop := SeqAt IsInt h v l ∧ ∀ x ∈ l, -9223372036854775808 ≤ x ∧ x ≤ 9223372036854775807
set_option maxRecDepth 100000 in
theorem open_intl {v : Value} {d : DataW H} {p : List MemPlace} (hv : Value.okWide Tryd.prog W .any base 24 v) (h : DataW.Trod enc Tryd.prog W 0 (fun _ => true) true 24 v d p) : ∃ l, IntsAt W.heap v l := by
  obtain ⟨l, a, cap, e, hl, hel⟩ := open_seqT (R := fun u x => IsInt u x ∧ -9223372036854775808 ≤ x ∧ x ≤ 9223372036854775807) Tryd.underlying24 (by kernel_rfl) (int_of Tryd.underlying3) hv h
  refine ⟨l, ⟨a, cap, e, hl, fun i hi => let ⟨b, off, u, e1, e2, e3⟩ := hel i hi; ⟨b, off, u, e1, e2, e3.1⟩⟩, fun x hx => ?_⟩
  obtain ⟨i, hi, rfl⟩ := List.getElem_of_mem hx
  obtain ⟨b, off, u, e1, e2, e3⟩ := hel i hi
  exact e3.2
theorem IntsAt.keeps {w w' : World} {v : Value} {l : List Int} (s : IntsAt w.heap v l) (k : Keeps w w') : IntsAt w'.heap v l := ⟨SeqAt.keeps s.1 k, s.2⟩
end
end Go.Proofs.YtllfhaocdknejaaDoor
