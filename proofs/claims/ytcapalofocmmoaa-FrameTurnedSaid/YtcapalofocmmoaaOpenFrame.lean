/- A law's frame opened. -/
import Derived.Test.YtcapalofocmmoaaOpen
import Derived.Test.YtcapalofocmmoaaFrMay
import Derived.Lib.SmallJoins
namespace Go.Proofs.Ytcapalofocmmoaa
open Go.ChangeShapes Go.WideShapes Go.ChangeAt Go.RowKit Go.Joins
open Go.ChangeMaps (open_string shut_string)
set_option maxRecDepth 100000 in
theorem open_frame {H : Type} {enc : TypeId × Value → H} {W : World} {base : Nat} {v : Value} {d : DataW H} {p : List MemPlace} (hv : Value.okWide Try.prog W .any base 47 v) (h : DataW.Trod enc Try.prog W 0 (fun _ => true) true 47 v d p) :
    ∃ (a b c e : Int) (s : ByteArray), v = frV a b c e s := by
  obtain ⟨cs, rfl, hsz⟩ := okWide_struct Try.underlying47 hv
  obtain ⟨l⟩ := cs
  have hC : Try.prog.cellsOf 47 = 5 := by kernel_rfl
  have hC0 : Try.prog.cellsOf 43 = 2 := by kernel_rfl
  have hC1 : Try.prog.cellsOf 45 = 2 := by kernel_rfl
  have hC2 : Try.prog.cellsOf 9 = 1 := by kernel_rfl
  have hCi : Try.prog.cellsOf 3 = 1 := by kernel_rfl
  match l, hsz.trans hC with
  | [c0, c1, c2, c3, c4], _ =>
    obtain ⟨fuel, hf⟩ := h
    obtain ⟨xs, n, _, hx, _, hlen, hg⟩ := DataW.trod_struct Try.underlying47 hf
    match xs, hlen with
    | [y0, y1, y2], _ =>
      have g0 : DataW.trod enc Try.prog W 0 (fun _ => true) true n 43 [c0, c1] = some y0 := by simpa [Value.cells, hC0] using hg 0 _ rfl
      have g1 : DataW.trod enc Try.prog W 0 (fun _ => true) true n 45 [c2, c3] = some y1 := by simpa [Value.cells, hC1] using hg 1 _ rfl
      have g2 : DataW.trod enc Try.prog W 0 (fun _ => true) true n 9 [c4] = some y2 := by simpa [Value.cells, hC2] using hg 2 _ rfl
      obtain ⟨xs0, n0, _, _, _, hl0, hg0⟩ := DataW.trod_struct Try.underlying43 g0
      obtain ⟨xs1, n1, _, _, _, hl1, hg1⟩ := DataW.trod_struct Try.underlying45 g1
      match xs0, hl0, xs1, hl1 with
      | [u0, u1], _, [u2, u3], _ =>
        have a0 : DataW.trod enc Try.prog W 0 (fun _ => true) true n0 3 [c0] = some u0 := by simpa [Value.cells, hCi] using hg0 0 _ rfl
        have a1 : DataW.trod enc Try.prog W 0 (fun _ => true) true n0 3 [c1] = some u1 := by simpa [Value.cells, hCi] using hg0 1 _ rfl
        have a2 : DataW.trod enc Try.prog W 0 (fun _ => true) true n1 3 [c2] = some u2 := by simpa [Value.cells, hCi] using hg1 0 _ rfl
        have a3 : DataW.trod enc Try.prog W 0 (fun _ => true) true n1 3 [c3] = some u3 := by simpa [Value.cells, hCi] using hg1 1 _ rfl
        obtain ⟨x0, e0, _, _⟩ := DataW.trod_int Try.underlying3 a0
        obtain ⟨x1, e1, _, _⟩ := DataW.trod_int Try.underlying3 a1
        obtain ⟨x2, e2, _, _⟩ := DataW.trod_int Try.underlying3 a2
        obtain ⟨x3, e3, _, _⟩ := DataW.trod_int Try.underlying3 a3
        obtain ⟨x4, e4, _⟩ := DataW.trod_string Try.underlying9 g2
        cases e0
        cases e1
        cases e2
        cases e3
        cases e4
        exact ⟨x0, x1, x2, x3, x4, rfl⟩
end Go.Proofs.Ytcapalofocmmoaa
