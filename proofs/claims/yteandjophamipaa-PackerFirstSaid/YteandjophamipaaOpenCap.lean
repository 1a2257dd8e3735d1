/- A law's slices opened: none is longer than its room. -/
import Derived.Test.YteandjophamipaaOpenStrs
namespace Go.Proofs.Yteandjophamipaa
open Go.ChangeShapes Go.WideShapes Go.ChangeAt Go.RowKit Go.Deep
section
variable {H : Type} {enc : TypeId × Value → H} {W : World} {base : Nat}
set_option maxRecDepth 100000 in
theorem open_cap {t e : TypeId} {v : Value} {d : DataW H} {p : List MemPlace} (ht : Try.prog.underlying t = some (.slice e)) (hc : Try.prog.cellsOf e = 1)
    (hv : Value.okWide Try.prog W .any base t v) (h : DataW.Trod enc Try.prog W 0 (fun _ => true) true t v d p) : ∀ a n q, v = .slice a n q → n ≤ q := by
  obtain ⟨a, len, cap, rfl⟩ := okWide_slice ht hv
  obtain ⟨n, hn⟩ := h
  rintro a' n' q' e'
  injection e' with e1 e2 e3
  subst e1 e2 e3
  rcases open_slice1 ht hc (show DataW.trod enc Try.prog W 0 (fun _ => true) true n t [.slice a len cap] = some (d, p) by simpa [Value.cells] using hn) with ⟨h0, _⟩ | ⟨a, len, cap, m, n, V, D, Pl, h0, _, hl, hm, hmm, _, hx⟩
  · simp at h0; omega
  · simp at h0
    simp only [if_true] at hmm
    omega
set_option maxRecDepth 100000 in
theorem cap_strl {v : Value} {d : DataW H} {p : List MemPlace} (hv : Value.okWide Try.prog W .any base 22 v) (h : DataW.Trod enc Try.prog W 0 (fun _ => true) true 22 v d p) : ∀ a n q, v = .slice a n q → n ≤ q :=
  open_cap Try.underlying22 (by kernel_rfl) hv h
end
end Go.Proofs.Yteandjophamipaa
