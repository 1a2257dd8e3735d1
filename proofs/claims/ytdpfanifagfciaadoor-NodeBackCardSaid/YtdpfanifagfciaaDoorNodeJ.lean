/- Directories put together, and one without one of its entries: plain. -/
import Derived.Test.YtdpfanifagfciaaDoorNodeB
namespace Go.Proofs.YtdpfanifagfciaaDoor
open Go.RowKit
theorem mayL_of {l : List EntR} (h : l.length ≤ 256) (e : ∀ k, k < l.length → okE l k = true) : mayL l = true := by
  unfold mayL
  rw [Bool.and_eq_true, decide_eq_true_eq, List.all_eq_true]
  exact ⟨h, fun k hk => e k (List.mem_range.1 hk)⟩
theorem okE_may {l : List EntR} {k : Nat} (h : okE l k = true) : mayE (eAt l k) = true ∧ (k = 0 ∨ lessT (eAt l (k - 1)).n (eAt l k).n = true) := by
  unfold okE at h
  rw [Bool.and_eq_true, Bool.or_eq_true, decide_eq_true_eq] at h
  exact h
theorem okE_of {l : List EntR} {k : Nat} (h1 : mayE (eAt l k) = true) (h2 : k = 0 ∨ lessT (eAt l (k - 1)).n (eAt l k).n = true) : okE l k = true := by
  unfold okE
  rw [Bool.and_eq_true, Bool.or_eq_true, decide_eq_true_eq]
  exact ⟨h1, h2⟩
theorem may_join {a b : List EntR} (ha : mayL a = true) (hb : mayL b = true) (hn : a.length + b.length ≤ 256) (hj : 0 < a.length → 0 < b.length → lessT (eAt a (a.length - 1)).n (eAt b 0).n = true) : mayL (a ++ b) = true := by
  obtain ⟨_, a2⟩ := mayL_all ha
  obtain ⟨_, b2⟩ := mayL_all hb
  refine mayL_of (by rw [List.length_append]; exact hn) fun k hk => ?_
  rw [List.length_append] at hk
  rcases Nat.lt_or_ge k a.length with hlt | hge
  · rw [okE_left hlt]; exact a2 k hlt
  · obtain ⟨j, rfl⟩ : ∃ j, k = a.length + j := ⟨k - a.length, by omega⟩
    obtain ⟨c1, c2⟩ := okE_may (b2 j (by omega))
    refine okE_of (by rw [eAt_right]; exact c1) ?_
    rcases Nat.eq_zero_or_pos j with h0 | h0
    · subst h0
      rcases Nat.eq_zero_or_pos a.length with e0 | e0
      · exact .inl (by omega)
      · refine .inr ?_
        rw [eAt_right, Nat.add_zero, eAt_left (show a.length - 1 < a.length by omega)]
        exact hj e0 (by omega)
    · refine .inr ?_
      have e : a.length + j - 1 = a.length + (j - 1) := by omega
      rw [e, eAt_right, eAt_right]
      exact c2.resolve_left (by omega)
theorem eAt_take {l : List EntR} {k i : Nat} (h : i < k) : eAt (l.take k) i = eAt l i := by
  unfold eAt
  rw [List.getD_eq_getElem?_getD, List.getD_eq_getElem?_getD, List.getElem?_take, if_pos h]
theorem eAt_drop {l : List EntR} {k i : Nat} : eAt (l.drop k) i = eAt l (k + i) := by
  unfold eAt
  rw [List.getD_eq_getElem?_getD, List.getD_eq_getElem?_getD, List.getElem?_drop]
theorem may_take {l : List EntR} (h : mayL l = true) (k : Nat) : mayL (l.take k) = true := by
  obtain ⟨h1, h2⟩ := mayL_all h
  refine mayL_of (by rw [List.length_take]; omega) fun i hi => ?_
  rw [List.length_take] at hi
  obtain ⟨c1, c2⟩ := okE_may (h2 i (by omega))
  refine okE_of (by rw [eAt_take (by omega)]; exact c1) ?_
  rw [eAt_take (by omega), eAt_take (by omega)]; exact c2
theorem may_drop {l : List EntR} (h : mayL l = true) (k : Nat) : mayL (l.drop k) = true := by
  obtain ⟨h1, h2⟩ := mayL_all h
  refine mayL_of (by rw [List.length_drop]; omega) fun i hi => ?_
  rw [List.length_drop] at hi
  obtain ⟨c1, c2⟩ := okE_may (h2 (k + i) (by omega))
  refine okE_of (by rw [eAt_drop]; exact c1) ?_
  rcases Nat.eq_zero_or_pos i with h0 | h0
  · exact .inl h0
  · refine .inr ?_
    rw [eAt_drop, eAt_drop]
    have e : k + (i - 1) = k + i - 1 := by omega
    rw [e]
    exact c2.resolve_left (by omega)
/-- A directory without one of its entries may be one. -/
theorem may_cut {l : List EntR} (h : mayL l = true) {k : Nat} (hk : k < l.length) : mayL (l.take k ++ l.drop (k + 1)) = true := by
  obtain ⟨h1, h2⟩ := mayL_all h
  have ht : (l.take k).length = k := by rw [List.length_take]; omega
  have hd : (l.drop (k + 1)).length = l.length - (k + 1) := List.length_drop
  refine may_join (may_take h k) (may_drop h (k + 1)) (by rw [ht, hd]; omega) fun h3 h4 => ?_
  rw [ht] at h3
  rw [hd] at h4
  rw [ht, eAt_take (by omega), eAt_drop, Nat.add_zero]
  have a := (okE_may (h2 k hk)).2.resolve_left (by omega)
  have b := (okE_may (h2 (k + 1) (by omega))).2.resolve_left (by omega)
  rw [Nat.add_sub_cancel] at b
  exact lessT_trans a b
end Go.Proofs.YtdpfanifagfciaaDoor
