/- A law's rows of texts opened, and how long their texts can be. -/
import Derived.Test.YtcapalofocmmoaaOpenStrs
import Derived.Test.YtcapalofocmmoaaText
import Derived.SizedLaws
import Derived.SliceStrings
namespace Go.Proofs.Ytcapalofocmmoaa
open Go.ChangeShapes Go.WideShapes Go.ChangeAt Go.RowKit Go.Deep
section
variable {H : Type} {enc : TypeId × Value → H} {W : World} {base : Nat}
theorem weights_strs {P : Program} {e : TypeId} : ∀ {ss : List ByteArray} {s : ByteArray}, s ∈ ss → s.data.toList.length ∈ DataW.weightsAll (H := H) P e (strs ss)
  | x :: ss, s, h => by
    have e1 : strs (H := H) (x :: ss) = DataW.lit (.string x.data.toList) :: strs ss := rfl
    rw [e1]
    simp only [DataW.weightsAll, DataW.weights, List.mem_append, List.mem_singleton]
    rcases List.mem_cons.1 h with h1 | h1
    · subst h1; exact .inl rfl
    · exact .inr (weights_strs h1)
set_option maxRecDepth 100000 in
theorem open_strz {v : Value} {d : DataW H} {p : List MemPlace} {ts : List TypeId} {ds : List (DataW H)} {j : Nat} (hv : Value.okWide Try.prog W .any base 22 v) (h : DataW.Trod enc Try.prog W 0 (fun _ => true) true 22 v d p)
    (hsz : (DataW.weightsEach Try.prog ts ds).all (· ≤ reachBytes) = true) (ht : ts[j]? = some 22) (hd : ds[j]? = some d) : ∃ l, SeqAt IsText W.heap v l ∧ ∀ x ∈ l, x.size ≤ 140737488351232 := by
  obtain ⟨l, hl⟩ := open_strl hv h
  refine ⟨l, hl, fun x hx => ?_⟩
  obtain ⟨i, hi, rfl⟩ := List.getElem_of_mem hx
  obtain ⟨b, off, c, u, rfl, hc, hu⟩ := seq_cell hl hi
  unfold IsText at hu
  subst hu
  obtain ⟨n, hn⟩ := h
  rcases open_strings Try.underlying22 Try.underlying9 (by kernel_rfl) (show DataW.trod enc Try.prog W 0 (fun _ => true) true n 22 [.slice (some ⟨b, off, none⟩) l.length c] = some (d, p) by simpa [Value.cells] using hn) with ⟨h0, _⟩ | ⟨a, len, cap, ss, h0, _, hle, _, hsl, hx2, hcell, _⟩
  · simp at h0
  · simp only [List.cons.injEq, Value.slice.injEq, Option.some.injEq, and_true] at h0
    obtain ⟨rfl, rfl, rfl⟩ := h0
    simp only [if_true] at hsl
    have hi2 : i < ss.length := by omega
    have h1 := hcell i hi2
    have ea : Addr.add ⟨b, off, none⟩ i = ⟨b, off + i, none⟩ := by
      unfold Addr.add
      split
      · rename_i h; rw [h]; rfl
      · rfl
    rw [ea, hc] at h1
    have e2 : l[i] = ss[i] := by
      have := Option.some.inj h1
      injection this with this
      rw [this, List.getD_eq_getElem?_getD, List.getElem?_eq_getElem hi2]; rfl
    have hd2 : d = .slice (strs (ss.take l.length)) (strs (ss.drop l.length)) := (Prod.mk.inj hx2).1
    have hm : ss[i] ∈ ss.take l.length := by
      rw [List.mem_take_iff_getElem]
      exact ⟨i, by omega, rfl⟩
    have hw := weights_strs (H := H) (P := Try.prog) (e := 9) hm
    have := List.all_eq_true.1 hsz _ (DataW.weights_mem_each ht hd (ss[i].data.toList.length) (by
      rw [hd2]
      simp only [DataW.weights, Try.underlying22, List.mem_cons, List.mem_append]
      exact .inr (.inl hw)))
    rw [e2]
    have h9 : ss[i].data.toList.length ≤ reachBytes := by simpa using this
    rw [data_size] at h9
    exact h9
end
end Go.Proofs.Ytcapalofocmmoaa
