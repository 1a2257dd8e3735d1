/- A law's lists of files opened. -/
import Derived.Test.YtdpfanifagfciaaDoorOpenRec
import Derived.Test.YtdpfanifagfciaaDoorFile
namespace Go.Proofs.YtdpfanifagfciaaDoor
open Go.ChangeShapes Go.WideShapes Go.ChangeAt Go.RowKit Go.Deep Go.Joins
section
variable {H : Type} {enc : TypeId × Value → H} {W : World} {base : Nat}
set_option maxRecDepth 100000 in
theorem file_of (n : Nat) (us : List Value) (y : DataW H × List MemPlace) (hl : us.length = 3) (h : DataW.trod enc Tryd.prog W 0 (fun _ => true) true n 47 us = some y) : ∃ x, IsFile us x := by
  have hC2 : Tryd.prog.cellsOf 9 = 1 := by kernel_rfl
  have hCb : Tryd.prog.cellsOf 4 = 1 := by kernel_rfl
  match us, hl with
  | [c0, c1, c2], _ =>
    obtain ⟨xs, n, _, hx, _, hlen, hg⟩ := DataW.trod_struct Tryd.underlying47 h
    match xs, hlen with
    | [y0, y1, y2], _ =>
      have g0 : DataW.trod enc Tryd.prog W 0 (fun _ => true) true n 9 [c0] = some y0 := by simpa [Value.cells, hC2] using hg 0 _ rfl
      have g1 : DataW.trod enc Tryd.prog W 0 (fun _ => true) true n 4 [c1] = some y1 := by simpa [Value.cells, hCb] using hg 1 _ rfl
      have g2 : DataW.trod enc Tryd.prog W 0 (fun _ => true) true n 9 [c2] = some y2 := by simpa [Value.cells, hC2] using hg 2 _ rfl
      obtain ⟨s0, e0, _⟩ := DataW.trod_string Tryd.underlying9 g0
      obtain ⟨b1, e1, _⟩ := DataW.trod_bool Tryd.underlying4 g1
      obtain ⟨s2, e2, _⟩ := DataW.trod_string Tryd.underlying9 g2
      cases e0
      cases e1
      cases e2
      exact ⟨⟨s0, b1, s2⟩, rfl⟩
set_option maxRecDepth 100000 in
theorem open_files {v : Value} {d : DataW H} {p : List MemPlace} (hv : Value.okWide Tryd.prog W .any base 44 v) (h : DataW.Trod enc Tryd.prog W 0 (fun _ => true) true 44 v d p) : ∃ l, FilesAt W.heap v l ∧ ∀ a n q, v = .slice a n q → n ≤ q :=
  open_recs (k := 3) Tryd.underlying44 (by kernel_rfl) (by decide) (fun n us y hl h => file_of n us y hl h) hv h
end
end Go.Proofs.YtdpfanifagfciaaDoor
