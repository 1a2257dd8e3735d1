/- A law's slices of records opened. -/
import Derived.Test.YtdpfanifagfciaaDoorOpenStrs
import Derived.Test.YtdpfanifagfciaaDoorRecB
import Derived.Lib.SmallJoins
namespace Go.Proofs.YtdpfanifagfciaaDoor
open Go.ChangeShapes Go.WideShapes Go.ChangeAt Go.RowKit Go.Deep Go.Joins
section
variable {H : Type} {enc : TypeId × Value → H} {W : World} {base : Nat}
theorem add_none {a : Addr} (h : a.spot = none) (i : Nat) : a.add i = ⟨a.block, a.off + i, none⟩ := by
  obtain ⟨b, o, s⟩ := a
  simp only at h
  subst h
  unfold Addr.add; split <;> simp_all
set_option maxRecDepth 100000 in
theorem open_recs {α : Type} [Inhabited α] {k : Nat} {R : List Value → α → Prop} {t e : TypeId} {v : Value} {d : DataW H} {p : List MemPlace} (ht : Tryd.prog.underlying t = some (.slice e)) (hc : Tryd.prog.cellsOf e = k) (hk : 0 < k)
    (hR : ∀ n us y, us.length = k → DataW.trod enc Tryd.prog W 0 (fun _ => true) true n e us = some y → ∃ x, R us x)
    (hv : Value.okWide Tryd.prog W .any base t v) (h : DataW.Trod enc Tryd.prog W 0 (fun _ => true) true t v d p) : ∃ l, RecAt k R W.heap v l ∧ ∀ a n q, v = .slice a n q → n ≤ q := by
  obtain ⟨a, len, cap, rfl⟩ := okWide_slice ht hv
  obtain ⟨n, hn⟩ := h
  rcases open_slice ht (show DataW.trod enc Tryd.prog W 0 (fun _ => true) true n t [.slice a len cap] = some (d, p) by simpa [Value.cells] using hn) with ⟨h0, _⟩ | ⟨a', len', cap', m, n', D, Pl, h0, _, hl, hm, hmm, _, hx⟩
  · simp only [List.cons.injEq, Value.slice.injEq, and_true] at h0
    obtain ⟨rfl, rfl, rfl⟩ := h0
    exact ⟨[], RecAt.nil k R W.heap, fun a n q e => by cases e; exact Nat.le_refl _⟩
  · simp only [List.cons.injEq, Value.slice.injEq, and_true] at h0
    obtain ⟨rfl, rfl, rfl⟩ := h0
    simp only [if_true] at hmm
    rw [hmm] at hx
    rw [hc] at hx
    have hch := choose_lt (α := α) (n := cap) (p := fun i x => ∃ us, us.length = k ∧ (∀ j (hj : j < us.length), W.cell? ((a'.add (i * k)).add j) = some us[j]) ∧ R us x) (fun i hi => by
      obtain ⟨us, h1, h2⟩ := hx i hi
      obtain ⟨_, h3, h4⟩ := World.cells?_some h1
      obtain ⟨x, hx⟩ := hR _ us _ h3 h2
      exact ⟨x, us, h3, fun j hj => by rw [h4 j (by omega), List.getElem?_eq_getElem hj], hx⟩)
    obtain ⟨X, hX⟩ := hch
    refine ⟨(List.range len).map X, ⟨some a', cap, by simp, by simp; unfold maxLen at hm; omega, fun i hi => ?_⟩, fun a n q e => by cases e; exact hl⟩
    have hi' : i < len := by simpa using hi
    obtain ⟨us, h1, h2, h3⟩ := hX i (by omega)
    have hs : a'.spot = none := by
      obtain ⟨us0, g1, g2, _⟩ := hX 0 (by omega)
      have h5 := g2 0 (by omega)
      exact spot_of (a := a') (by simpa [Addr.add] using h5)
    have ha : a' = ⟨a'.block, a'.off, none⟩ := by cases a'; simp_all
    refine ⟨a'.block, a'.off, us, by rw [← ha], h1, fun j hj => ?_, ?_⟩
    · have h5 := h2 j hj
      rw [add_none hs, add_none rfl, cell_of] at h5
      exact h5
    · simpa using h3
end
end Go.Proofs.YtdpfanifagfciaaDoor
