/- A law's slices opened. -/
import Derived.Test.YtdpfanifagfciaaDoorOpen
import Derived.Test.YtdpfanifagfciaaDoorSeq
import Derived.Deep.Slices
namespace Go.Proofs.YtdpfanifagfciaaDoor
open Go.ChangeShapes Go.WideShapes Go.ChangeAt Go.RowKit Go.Deep
section
variable {H : Type} {enc : TypeId × Value → H} {W : World} {base : Nat}
theorem spot_of {w : World} {a : Addr} {v : Value} (h : w.cell? a = some v) : a.spot = none := by
  unfold World.cell? at h
  split at h
  · split at h
    · cases h
    · rename_i hh; cases hs : a.spot with | none => rfl | some _ => rw [hs] at hh; exact absurd rfl hh
  · cases h
theorem open_seq1 {α : Type} [Inhabited α] {R : Value → α → Prop} {t e : TypeId} {fuel : Nat} {u : Value} {x : DataW H × List MemPlace} (ht : Tryd.prog.underlying t = some (.slice e)) (hc : Tryd.prog.cellsOf e = 1)
    (hR : ∀ n u y, DataW.trod enc Tryd.prog W 0 (fun _ => true) true n e [u] = some y → ∃ x, R u x)
    (h : DataW.trod enc Tryd.prog W 0 (fun _ => true) true fuel t [u] = some x) : ∃ l, SeqAt R W.heap u l := by
  rcases open_slice1 ht hc h with ⟨h0, _⟩ | ⟨a, len, cap, m, n, V, D, Pl, h0, _, hl, hm, hmm, _, hx⟩
  · obtain rfl : u = .slice none 0 0 := by simpa using h0
    exact ⟨[], SeqAt.nil R W.heap⟩
  · obtain rfl : u = .slice (some a) len cap := by simpa using h0
    simp only [if_true] at hmm
    subst hmm
    obtain ⟨X, hX⟩ := choose_lt (n := m) (p := fun i x => R (V i) x) fun i hi => hR _ _ _ (hx i hi).2
    refine ⟨(List.range len).map X, some a, m, by simp, by simp; unfold maxLen at hm; omega, fun i hi => ?_⟩
    have hi' : i < len := by simpa using hi
    have h0 := (hx 0 (by omega)).1
    have hs : a.spot = none := spot_of (a := a) (by simpa [Addr.add] using h0)
    refine ⟨a.block, a.off, V i, by cases a; simp_all, ?_, by simpa using hX i (by omega)⟩
    have := (hx i (by omega)).1
    rw [← cell_of]
    unfold Addr.add at this
    split at this
    · cases a; simp_all
    · simpa using this
set_option maxRecDepth 100000 in
theorem open_seqT {α : Type} [Inhabited α] {R : Value → α → Prop} {t e : TypeId} {v : Value} {d : DataW H} {p : List MemPlace} (ht : Tryd.prog.underlying t = some (.slice e)) (hc : Tryd.prog.cellsOf e = 1)
    (hR : ∀ n u y, DataW.trod enc Tryd.prog W 0 (fun _ => true) true n e [u] = some y → ∃ x, R u x)
    (hv : Value.okWide Tryd.prog W .any base t v) (h : DataW.Trod enc Tryd.prog W 0 (fun _ => true) true t v d p) : ∃ l, SeqAt R W.heap v l := by
  obtain ⟨a, len, cap, rfl⟩ := okWide_slice ht hv
  obtain ⟨n, hn⟩ := h
  exact open_seq1 ht hc hR (by simpa [Value.cells] using hn)
set_option maxRecDepth 100000 in
theorem byte_of {t : TypeId} (ht : Tryd.prog.underlying t = some (.int .u8)) (n : Nat) (u : Value) (y : DataW H × List MemPlace) (h : DataW.trod enc Tryd.prog W 0 (fun _ => true) true n t [u] = some y) : ∃ x, IsByte u x := by
  obtain ⟨k, hu, _, hw⟩ := DataW.trod_int ht h
  obtain rfl : u = .int .u8 k := by simpa using hu
  have := wf_u8 hw
  exact ⟨UInt8.ofNat k.toNat, by unfold IsByte; congr 1; simp; omega⟩
set_option maxRecDepth 100000 in
theorem int_of {t : TypeId} (ht : Tryd.prog.underlying t = some (.int .i64)) (n : Nat) (u : Value) (y : DataW H × List MemPlace) (h : DataW.trod enc Tryd.prog W 0 (fun _ => true) true n t [u] = some y) : ∃ x : Int, IsInt u x ∧ -9223372036854775808 ≤ x ∧ x ≤ 9223372036854775807 := by
  obtain ⟨k, hu, _, hw⟩ := DataW.trod_int ht h
  obtain rfl : u = .int .i64 k := by simpa using hu
  exact ⟨k, rfl, wf_i64 hw⟩
end
end Go.Proofs.YtdpfanifagfciaaDoor
