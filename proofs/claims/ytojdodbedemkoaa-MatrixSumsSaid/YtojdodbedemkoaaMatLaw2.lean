/- Plain laws of the document's matrices: rows of rows; sums of lists; a code's matrix. No program in sight. -/
import Derived.Test.YtojdodbedemkoaaMatLaw
namespace Go.Proofs.Ytojdodbedemkoaa
theorem picked_one {m : List (List UInt8)} {a : List Int} (ho : (rowsM m a).2 = 0) :
    ∃ X O Q, rowsM m a = (X, 0) ∧ oneM (m.length : Int) = (O, 0) ∧ rowsM O a = (Q, 0) ∧ mulM Q m = (X, 0) ∧ X.length = a.length := by
  obtain ⟨hm, l1, l2, l3, e⟩ := rowsM_ok ho
  obtain ⟨a1, a2, a3, a4, _⟩ := mayB_iff.1 hm
  obtain ⟨L, R, hL, hR, hLa, haR⟩ := order_ones hm
  have hO := oneM_ok a1 a2
  have hLe : L = matOf m.length m.length oneAt := by rw [hO] at hL; exact (congrArg Prod.fst hL).symm
  have hmo : mayB 12 L = true := by rw [hLe]; exact may_matOf _ a1 a2 a1 a2
  have hll : L.length = m.length := by rw [hLe, matOf_length]
  have h1 := rows_prod (l := a) hmo hm (by rw [hLe, matOf_head _ a1]) (by rw [rowsM_make hmo l1 l2 (by rw [hll]; exact l3)])
  rw [hLa] at h1
  refine ⟨_, L, _, e, hL, rowsM_make hmo l1 l2 (by rw [hll]; exact l3), ?_, pick_length _ _⟩
  rw [rowsM_make hmo l1 l2 (by rw [hll]; exact l3)] at h1
  simp only [] at h1
  rw [h1, e]
theorem picked_no {m : List (List UInt8)} {a : List Int} (ho : ¬ (rowsM m a).2 = 0) : ∃ E, E ≠ 0 ∧ rowsM m a = ([], E) := ⟨_, ho, Prod.ext (rowsM_bad ho) rfl⟩
theorem picked_rows {m X : List (List UInt8)} {a b : List Int} (hx : rowsM m a = (X, 0)) (ho : (rowsM X b).2 = 0) :
    ∃ Y, rowsM X b = (Y, 0) ∧ (∀ x ∈ b, 0 ≤ x ∧ x < (a.length : Int)) ∧ b.length ≤ 12 ∧ rowsM m (b.map fun i => a.getD i.toNat 0) = (Y, 0) := by
  obtain ⟨hm, l1, l2, l3, e⟩ := rowsM_ok (m := m) (l := a) (by rw [hx])
  have hX : X = pick m a := by rw [e] at hx; exact (congrArg Prod.fst hx).symm
  obtain ⟨hmX, k1, k2, k3, e2⟩ := rowsM_ok ho
  have hl : X.length = a.length := by rw [hX, pick_length]
  rw [hl] at k3
  refine ⟨_, e2, k3, k2, ?_⟩
  rw [rowsM_make hm (by simpa using k1) (by simpa using k2) ?_]
  · refine Prod.ext ?_ rfl
    show pick _ _ = pick _ _
    unfold pick
    rw [List.map_map]
    refine List.map_congr_left fun x hx => ?_
    have := k3 x hx
    rw [hX]
    simp only [Function.comp]
    unfold pick
    have hi : x.toNat < a.length := by omega
    rw [List.getD_eq_getElem?_getD, List.getD_eq_getElem?_getD, List.getD_eq_getElem?_getD, List.getElem?_map, List.getElem?_eq_getElem hi]
    simp only [Option.map_some, Option.getD_some]
    rw [List.getD_eq_getElem?_getD]
  · intro y hy
    obtain ⟨x, hx, rfl⟩ := List.mem_map.1 hy
    have := k3 x hx
    have hi : x.toNat < a.length := by omega
    rw [List.getD_eq_getElem?_getD, List.getElem?_eq_getElem hi]
    exact l3 _ (List.getElem_mem hi)
/-! ### What MatrixSums meets -/
def sumL (a b : List UInt8) : List UInt8 := (List.range a.length).map fun i => a.getD i 0 ^^^ b.getD i 0
def timesL (a : List UInt8) (x : UInt8) : List UInt8 := (List.range a.length).map fun i => LA.mul (a.getD i 0) x
theorem sums_err {m : List (List UInt8)} {a b : List UInt8} (h : a.length = b.length) : (vecM m a).2 = (vecM m b).2 := by
  unfold vecM; rw [h]; split <;> rfl
theorem sums_all {m : List (List UInt8)} {a b : List UInt8} (x : UInt8) (h : a.length = b.length) (ho : (vecM m a).2 = 0) :
    ∃ P Q S T, vecM m a = (P, 0) ∧ vecM m b = (Q, 0) ∧ vecM m (sumL a b) = (S, 0) ∧ vecM m (timesL a x) = (T, 0) ∧ P.length = m.length ∧ Q.length = m.length ∧ S.length = m.length ∧ T.length = m.length ∧
      ∀ k, k < m.length → S.getD k 0 = P.getD k 0 ^^^ Q.getD k 0 ∧ T.getD k 0 = LA.mul (P.getD k 0) x := by
  obtain ⟨hm, ha⟩ := vecM_may ho
  have e1 := vecM_ok hm ha
  have e2 := vecM_ok hm (ha.trans h)
  have e3 := vecM_ok (v := sumL a b) hm (by rw [ha]; unfold sumL; simp)
  have e4 := vecM_ok (v := timesL a x) hm (by rw [ha]; unfold timesL; simp)
  refine ⟨_, _, _, _, e1, e2, e3, e4, by simp, by simp, by simp, by simp, fun k hk => ?_⟩
  rw [range_at _ hk, range_at _ hk, range_at _ hk, range_at _ hk]
  unfold vecAt
  constructor
  · rw [← h, ← LA.sum_xor]
    have hl : (sumL a b).length = a.length := by unfold sumL; simp
    rw [hl]
    refine LA.sum_congr fun i hi => ?_
    unfold sumL; rw [range_at _ hi, LA.mul_xor]
  · rw [LA.sum_mul]
    have hl : (timesL a x).length = a.length := by unfold timesL; simp
    rw [hl]
    refine LA.sum_congr fun i hi => ?_
    unfold timesL; rw [range_at _ hi, LA.mul_assoc]
theorem sums_none {m : List (List UInt8)} {a b : List UInt8} (x : UInt8) (h : a.length = b.length) (ho : ¬ (vecM m a).2 = 0) :
    vecM m a = ([], 4) ∧ vecM m b = ([], 4) ∧ vecM m (sumL a b) = ([], 4) ∧ vecM m (timesL a x) = ([], 4) := by
  have k : ∀ c : List UInt8, a.length = c.length → vecM m c = ([], 4) := fun c hc => vecM_no (by rw [← sums_err hc]; exact ho)
  exact ⟨vecM_no ho, k b h, k _ (by unfold sumL; simp), k _ (by unfold timesL; simp)⟩
end Go.Proofs.Ytojdodbedemkoaa
