/- A law's arguments opened: a code, rows of numbers and of texts. -/
import Derived.Test.YtllfhaocdknejaaDoorOpen
import Derived.Lib.SmallJoins
import Derived.Test.YtllfhaocdknejaaDoorOpenSeq
import Derived.Test.YtllfhaocdknejaaDoorText
import Derived.SizedLaws
import Derived.SliceStrings
namespace Go.Proofs.YtllfhaocdknejaaDoor
open Go.ChangeShapes Go.WideShapes Go.ChangeAt Go.RowKit Go.Joins
set_option maxRecDepth 100000 in
theorem open_code {H : Type} {enc : TypeId × Value → H} {W : World} {base : Nat} {v : Value} {d : DataW H} {p : List MemPlace} (hv : Value.okWide Tryd.prog W .any base 23 v) (h : DataW.Trod enc Tryd.prog W 0 (fun _ => true) true 23 v d p) :
    ∃ a b : Int, v = .agg #[.int .i64 a, .int .i64 b] ∧ (-9223372036854775808 ≤ a ∧ a ≤ 9223372036854775807) ∧ (-9223372036854775808 ≤ b ∧ b ≤ 9223372036854775807) := by
  obtain ⟨c0, c1, y0, y1, m, rfl, rfl, rfl, hy0, hy1⟩ := open_agg2 Tryd.underlying23 (by kernel_rfl) (by kernel_rfl) hv h
  obtain ⟨a, e0, rfl, wa⟩ := DataW.trod_int Tryd.underlying3 hy0
  obtain ⟨b, e1, rfl, wb⟩ := DataW.trod_int Tryd.underlying3 hy1
  simp at e0 e1
  subst e0 e1
  exact ⟨a, b, rfl, wf_i64 wa, wf_i64 wb⟩
end Go.Proofs.YtllfhaocdknejaaDoor
namespace Go.Proofs.YtllfhaocdknejaaDoor
open Go.ChangeShapes Go.WideShapes Go.ChangeAt Go.RowKit Go.Deep
section
variable {H : Type} {enc : TypeId × Value → H} {W : World} {base : Nat}
/-- A row of numbers. -/
def IntsAt (h : Array Obj) (v : Value) (l : List Int) : Prop := SeqAt IsInt h v l ∧ ∀ x ∈ l, -9223372036854775808 ≤ x ∧ x ≤ 9223372036854775807
set_option maxRecDepth 100000 in
theorem open_intl {v : Value} {d : DataW H} {p : List MemPlace} (hv : Value.okWide Tryd.prog W .any base 24 v) (h : DataW.Trod enc Tryd.prog W 0 (fun _ => true) true 24 v d p) : ∃ l, IntsAt W.heap v l := by
  obtain ⟨l, a, cap, e, hl, hel⟩ := open_seqT (R := fun u x => IsInt u x ∧ -9223372036854775808 ≤ x ∧ x ≤ 9223372036854775807) Tryd.underlying24 (by kernel_rfl) (int_of Tryd.underlying3) hv h
  refine ⟨l, ⟨a, cap, e, hl, fun i hi => let ⟨b, off, u, e1, e2, e3⟩ := hel i hi; ⟨b, off, u, e1, e2, e3.1⟩⟩, fun x hx => ?_⟩
  obtain ⟨i, hi, rfl⟩ := List.getElem_of_mem hx
  obtain ⟨b, off, u, e1, e2, e3⟩ := hel i hi
  exact e3.2
theorem IntsAt.keeps {w w' : World} {v : Value} {l : List Int} (s : IntsAt w.heap v l) (k : Keeps w w') : IntsAt w'.heap v l := ⟨SeqAt.keeps s.1 k, s.2⟩
end
end Go.Proofs.YtllfhaocdknejaaDoor
namespace Go.Proofs.YtllfhaocdknejaaDoor
open Go.ChangeShapes Go.WideShapes Go.ChangeAt Go.RowKit Go.Deep
section
variable {H : Type} {enc : TypeId × Value → H} {W : World} {base : Nat}
set_option maxRecDepth 100000 in
theorem text_of {t : TypeId} (ht : Tryd.prog.underlying t = some .string) (n : Nat) (u : Value) (y : DataW H × List MemPlace) (h : DataW.trod enc Tryd.prog W 0 (fun _ => true) true n t [u] = some y) : ∃ x : ByteArray, IsText u x ∧ x.size ≤ 9223372036854775807 := by
  obtain ⟨s, hu, _, hs⟩ := DataW.trod_string ht h
  obtain rfl : u = .string s := by simpa using hu
  exact ⟨s, rfl, hs⟩
set_option maxRecDepth 100000 in
theorem open_strl {v : Value} {d : DataW H} {p : List MemPlace} (hv : Value.okWide Tryd.prog W .any base 25 v) (h : DataW.Trod enc Tryd.prog W 0 (fun _ => true) true 25 v d p) : ∃ l, SeqAt IsText W.heap v l := by
  obtain ⟨l, a, cap, e, hl, hel⟩ := open_seqT (R := fun u x => IsText u x ∧ x.size ≤ 9223372036854775807) Tryd.underlying25 (by kernel_rfl) (text_of Tryd.underlying9) hv h
  exact ⟨l, ⟨a, cap, e, hl, fun i hi => let ⟨b, off, u, e1, e2, e3⟩ := hel i hi; ⟨b, off, u, e1, e2, e3.1⟩⟩⟩
end
end Go.Proofs.YtllfhaocdknejaaDoor
namespace Go.Proofs.YtllfhaocdknejaaDoor
open Go.ChangeShapes Go.WideShapes Go.ChangeAt Go.RowKit Go.Deep
section
variable {H : Type} {enc : TypeId × Value → H} {W : World} {base : Nat}
theorem weights_strs {P : Program} {e : TypeId} : ∀ {ss : List ByteArray} {s : ByteArray}, s ∈ ss → s.data.toList.length ∈ DataW.weightsAll (H := H) P e (strs ss)
  | x :: ss, s, h => by
    have e1 : strs (H := H) (x :: ss) = DataW.lit (.string x.data.toList) :: strs ss := rfl
    rw [e1]
    simp only [DataW.weightsAll, DataW.weights, List.mem_append, List.mem_singleton]
    rcases List.mem_cons.1 h with h1 | h1
    · subst h1; exact .inl rfl
    · exact .inr (weights_strs h1)
set_option maxRecDepth 100000 in
theorem open_strz {v : Value} {d : DataW H} {p : List MemPlace} {ts : List TypeId} {ds : List (DataW H)} {j : Nat} (hv : Value.okWide Tryd.prog W .any base 25 v) (h : DataW.Trod enc Tryd.prog W 0 (fun _ => true) true 25 v d p)
    (hsz : (DataW.weightsEach Tryd.prog ts ds).all (· ≤ reachBytes) = true) (ht : ts[j]? = some 25) (hd : ds[j]? = some d) : ∃ l, SeqAt IsText W.heap v l ∧ ∀ x ∈ l, x.size ≤ 140737488351232 := by
  obtain ⟨l, hl⟩ := open_strl hv h
  refine ⟨l, hl, fun x hx => ?_⟩
  obtain ⟨i, hi, rfl⟩ := List.getElem_of_mem hx
  obtain ⟨b, off, c, u, rfl, hc, hu⟩ := seq_cell hl hi
  unfold IsText at hu
  subst hu
  obtain ⟨n, hn⟩ := h
  rcases open_strings Tryd.underlying25 Tryd.underlying9 (by kernel_rfl) (show DataW.trod enc Tryd.prog W 0 (fun _ => true) true n 25 [.slice (some ⟨b, off, none⟩) l.length c] = some (d, p) by simpa [Value.cells] using hn) with ⟨h0, _⟩ | ⟨a, len, cap, ss, h0, _, hle, _, hsl, hx2, hcell, _⟩
  · simp at h0
  · simp only [List.cons.injEq, Value.slice.injEq, Option.some.injEq, and_true] at h0
    obtain ⟨rfl, rfl, rfl⟩ := h0
    simp only [if_true] at hsl
    have hi2 : i < ss.length := by omega
    have h1 := hcell i hi2
    have ea : Addr.add ⟨b, off, none⟩ i = ⟨b, off + i, none⟩ := by
      unfold Addr.add
      split
      · rename_i h; rw [h]; rfl
      · rfl
    rw [ea, hc] at h1
    have e2 : l[i] = ss[i] := by
      have := Option.some.inj h1
      injection this with this
      rw [this, List.getD_eq_getElem?_getD, List.getElem?_eq_getElem hi2]; rfl
    have hd2 : d = .slice (strs (ss.take l.length)) (strs (ss.drop l.length)) := (Prod.mk.inj hx2).1
    have hm : ss[i] ∈ ss.take l.length := by
      rw [List.mem_take_iff_getElem]
      exact ⟨i, by omega, rfl⟩
    have hw := weights_strs (H := H) (P := Tryd.prog) (e := 9) hm
    have := List.all_eq_true.1 hsz _ (DataW.weights_mem_each ht hd (ss[i].data.toList.length) (by
      rw [hd2]
      simp only [DataW.weights, Tryd.underlying25, List.mem_cons, List.mem_append]
      exact .inr (.inl hw)))
    rw [e2]
    have h9 : ss[i].data.toList.length ≤ reachBytes := by simpa using this
    rw [data_size] at h9
    exact h9
end
end Go.Proofs.YtllfhaocdknejaaDoor
namespace Go.Proofs.YtllfhaocdknejaaDoor
open Go.ChangeShapes Go.WideShapes Go.ChangeAt Go.RowKit Go.Deep
section
variable {H : Type} {enc : TypeId × Value → H} {W : World} {base : Nat}
set_option maxRecDepth 100000 in
theorem open_cap {t e : TypeId} {v : Value} {d : DataW H} {p : List MemPlace} (ht : Tryd.prog.underlying t = some (.slice e)) (hc : Tryd.prog.cellsOf e = 1)
    (hv : Value.okWide Tryd.prog W .any base t v) (h : DataW.Trod enc Tryd.prog W 0 (fun _ => true) true t v d p) : ∀ a n q, v = .slice a n q → n ≤ q := by
  obtain ⟨a, len, cap, rfl⟩ := okWide_slice ht hv
  obtain ⟨n, hn⟩ := h
  rintro a' n' q' e'
  injection e' with e1 e2 e3
  subst e1 e2 e3
  rcases open_slice1 ht hc (show DataW.trod enc Tryd.prog W 0 (fun _ => true) true n t [.slice a len cap] = some (d, p) by simpa [Value.cells] using hn) with ⟨h0, _⟩ | ⟨a, len, cap, m, n, V, D, Pl, h0, _, hl, hm, hmm, _, hx⟩
  · simp at h0; omega
  · simp at h0
    simp only [if_true] at hmm
    omega
set_option maxRecDepth 100000 in
theorem cap_strl {v : Value} {d : DataW H} {p : List MemPlace} (hv : Value.okWide Tryd.prog W .any base 25 v) (h : DataW.Trod enc Tryd.prog W 0 (fun _ => true) true 25 v d p) : ∀ a n q, v = .slice a n q → n ≤ q :=
  open_cap Tryd.underlying25 (by kernel_rfl) hv h
set_option maxRecDepth 100000 in
theorem cap_intl {v : Value} {d : DataW H} {p : List MemPlace} (hv : Value.okWide Tryd.prog W .any base 24 v) (h : DataW.Trod enc Tryd.prog W 0 (fun _ => true) true 24 v d p) : ∀ a n q, v = .slice a n q → n ≤ q :=
  open_cap Tryd.underlying24 (by kernel_rfl) hv h
end
end Go.Proofs.YtllfhaocdknejaaDoor
