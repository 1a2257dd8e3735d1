/- Plain laws of the document's matrices: products, rows, lists. No program in sight. -/
import Derived.Test.YtojdodbedemkoaaMatRows
namespace Go.Proofs.Ytojdodbedemkoaa

theorem matOf_length (r c : Nat) (g : Nat → Nat → UInt8) : (matOf r c g).length = r := by unfold matOf; simp
theorem matOf_row {r c i : Nat} (g : Nat → Nat → UInt8) (hi : i < r) : (matOf r c g).getD i [] = (List.range c).map (g i) := by
  unfold matOf; rw [List.getD_eq_getElem?_getD, List.getElem?_map, List.getElem?_range hi]; rfl
theorem at_matOf {r c i j : Nat} (g : Nat → Nat → UInt8) (hi : i < r) (hj : j < c) : LA.at_ (matOf r c g) i j = g i j := by
  unfold LA.at_; rw [matOf_row g hi, List.getD_eq_getElem?_getD, List.getElem?_map, List.getElem?_range hj]; rfl
theorem matOf_congr {r c : Nat} {f g : Nat → Nat → UInt8} (h : ∀ i, i < r → ∀ j, j < c → f i j = g i j) : matOf r c f = matOf r c g := by
  unfold matOf
  refine List.map_congr_left fun i hi => List.map_congr_left fun j hj => h i (by simpa using hi) j (by simpa using hj)
theorem matOf_head {r c : Nat} (g : Nat → Nat → UInt8) (hr : 1 ≤ r) : ((matOf r c g).headD []).length = c := by
  obtain ⟨n, rfl⟩ : ∃ n, r = n + 1 := ⟨r - 1, by omega⟩
  unfold matOf; rw [List.range_succ_eq_map]; simp
theorem may_matOf {t r c : Nat} (g : Nat → Nat → UInt8) (h1 : 1 ≤ r) (h2 : r ≤ t) (h3 : 1 ≤ c) (h4 : c ≤ t) : mayB t (matOf r c g) = true := by
  rw [mayB_iff, matOf_length, matOf_head g h1]
  refine ⟨h1, h2, h3, h4, fun row hr => ?_⟩
  unfold matOf at hr
  obtain ⟨i, _, rfl⟩ := List.mem_map.1 hr
  simp
/-- A matrix by its numbers. -/
theorem mat_eq {t : Nat} {m : List (List UInt8)} (h : mayB t m = true) : m = matOf m.length (m.headD []).length (LA.at_ m) := by
  refine List.ext_getElem (matOf_length _ _ _).symm fun i h1 h2 => ?_
  have hr := may_row h h1
  have e1 : m.getD i [] = m[i] := by rw [List.getD_eq_getElem?_getD, List.getElem?_eq_getElem h1]; rfl
  have e2 := matOf_row (r := m.length) (c := (m.headD []).length) (LA.at_ m) h1
  rw [List.getD_eq_getElem?_getD, List.getElem?_eq_getElem h2] at e2
  change (matOf m.length (m.headD []).length (LA.at_ m))[i] = _ at e2
  rw [e2]
  rw [e1] at hr
  refine List.ext_getElem (by simp [hr]) fun j h3 h4 => ?_
  rw [List.getElem_map, List.getElem_range]
  unfold LA.at_
  rw [e1, List.getD_eq_getElem?_getD, List.getElem?_eq_getElem h3]; rfl
theorem rows_eq {t : Nat} {m k : List (List UInt8)} (h : mayB t m = true) (h' : mayB t k = true) (hl : m.length = k.length) (hc : (m.headD []).length = (k.headD []).length)
    (hx : ∀ i, i < m.length → ∀ j, j < (m.headD []).length → LA.at_ m i j = LA.at_ k i j) : m = k := by
  rw [mat_eq h, mat_eq h', ← hl, ← hc]; exact matOf_congr hx

/-- A product that may be. -/
theorem mulM_ok {a b : List (List UInt8)} (ha : mayB 12 a = true) (hb : mayB 12 b = true) (h : (a.headD []).length = b.length) : mulM a b = (matOf a.length (b.headD []).length (prodAt a b), 0) := by
  unfold mulM; rw [ha, hb, decide_eq_true h]; rfl
theorem mulM_no {a b : List (List UInt8)} (h : ¬ (a.headD []).length = b.length) : mulM a b = ([], 4) := by
  unfold mulM; rw [decide_eq_false h, Bool.and_false]; rfl
theorem prod_may {a b : List (List UInt8)} (ha : mayB 12 a = true) (hb : mayB 12 b = true) (g : Nat → Nat → UInt8) : mayB 12 (matOf a.length (b.headD []).length g) = true := by
  obtain ⟨a1, a2, a3, a4, _⟩ := mayB_iff.1 ha
  obtain ⟨b1, b2, b3, b4, _⟩ := mayB_iff.1 hb
  exact may_matOf g a1 a2 b3 b4
theorem oneM_ok {n : Nat} (h1 : 1 ≤ n) (h2 : n ≤ 12) : oneM (n : Int) = (matOf n n oneAt, 0) := by
  unfold oneM; rw [decide_eq_true (by omega)]; rfl
theorem one_sum (n i : Nat) (hi : i < n) (f : Nat → UInt8) : LA.sum n (fun k => LA.mul (oneAt i k) (f k)) = f i := by
  rw [LA.sum_single hi]
  · unfold oneAt; rw [if_pos rfl, LA.one_mul]
  · intro k _ hk; unfold oneAt; rw [if_neg (fun e => hk e.symm), LA.zero_mul]
theorem sum_one (n j : Nat) (hj : j < n) (f : Nat → UInt8) : LA.sum n (fun k => LA.mul (f k) (oneAt k j)) = f j := by
  rw [LA.sum_single hj]
  · unfold oneAt; rw [if_pos rfl, LA.mul_one]
  · intro k _ hk; unfold oneAt; rw [if_neg hk, LA.mul_zero]
theorem one_mulM {a : List (List UInt8)} (ha : mayB 12 a = true) : mulM (oneM (a.length : Int)).1 a = (a, 0) := by
  obtain ⟨a1, a2, a3, a4, _⟩ := mayB_iff.1 ha
  rw [oneM_ok a1 a2]
  have h1 := may_matOf (t := 12) oneAt a1 a2 a1 a2
  rw [mulM_ok h1 ha (matOf_head _ a1), matOf_length]
  refine Prod.ext ?_ rfl
  show matOf _ _ _ = a
  refine Eq.trans (matOf_congr fun i hi j hj => ?_) (mat_eq ha).symm
  unfold prodAt
  refine (LA.sum_congr fun k hk => ?_).trans (one_sum a.length i hi (fun k => LA.at_ a k j))
  rw [at_matOf _ hi hk]
theorem mulM_one {a : List (List UInt8)} (ha : mayB 12 a = true) : mulM a (oneM ((a.headD []).length : Int)).1 = (a, 0) := by
  obtain ⟨a1, a2, a3, a4, _⟩ := mayB_iff.1 ha
  rw [oneM_ok a3 a4]
  have h1 := may_matOf (t := 12) oneAt a3 a4 a3 a4
  rw [mulM_ok ha h1 (matOf_length _ _ _).symm, matOf_head _ a3]
  refine Prod.ext ?_ rfl
  show matOf _ _ _ = a
  refine Eq.trans (matOf_congr fun i hi j hj => ?_) (mat_eq ha).symm
  unfold prodAt
  rw [matOf_length]
  refine (LA.sum_congr fun k hk => ?_).trans (sum_one _ j hj (fun k => LA.at_ a i k))
  rw [at_matOf _ hk hj]

theorem pick_length (m : List (List UInt8)) (l : List Int) : (pick m l).length = l.length := by unfold pick; simp
theorem rowsM_err {a b : List (List UInt8)} (ha : mayB 12 a = true) (hb : mayB 12 b = true) (hl : a.length = b.length) (l : List Int) : (rowsM a l).2 = (rowsM b l).2 := by
  have : okAt a = okAt b := by funext i; unfold okAt; rw [hl]
  unfold rowsM; rw [ha, hb, this]
  simp only [if_true]
  split
  · split <;> rfl
  · rfl
theorem rowsM_ok {m : List (List UInt8)} {l : List Int} (h : (rowsM m l).2 = 0) : mayB 12 m = true ∧ 1 ≤ l.length ∧ l.length ≤ 12 ∧ (∀ x ∈ l, 0 ≤ x ∧ x < (m.length : Int)) ∧ rowsM m l = (pick m l, 0) := by
  unfold rowsM at h ⊢
  split at h
  · rename_i h1
    split at h
    · rename_i h2
      split at h
      · rename_i h3
        have h2' := of_decide_eq_true h2
        refine ⟨h1, h2'.1, h2'.2, fun x hx => ?_, by rw [if_pos h1, if_pos h2, if_pos h3]⟩
        have := List.all_eq_true.1 h3 x hx
        unfold okAt at this
        exact of_decide_eq_true this
      · cases h
    · cases h
  · cases h
theorem rowsM_make {m : List (List UInt8)} {l : List Int} (h1 : mayB 12 m = true) (h2 : 1 ≤ l.length) (h3 : l.length ≤ 12) (h4 : ∀ x ∈ l, 0 ≤ x ∧ x < (m.length : Int)) : rowsM m l = (pick m l, 0) := by
  unfold rowsM
  rw [h1, decide_eq_true ⟨h2, h3⟩, if_pos rfl, if_pos rfl, if_pos]
  exact List.all_eq_true.2 fun x hx => by unfold okAt; exact decide_eq_true (h4 x hx)
theorem rowsM_bad {m : List (List UInt8)} {l : List Int} (h : ¬ (rowsM m l).2 = 0) : (rowsM m l).1 = [] := by
  unfold rowsM at h ⊢
  split
  · split
    · split
      · rename_i h1 h2 h3; exact absurd (by rw [if_pos h1, if_pos h2, if_pos h3]) h
      · rfl
    · rfl
  · rfl
theorem pick_at {m : List (List UInt8)} {l : List Int} {i j : Nat} (hi : i < l.length) : LA.at_ (pick m l) i j = LA.at_ m l[i].toNat j := by
  unfold LA.at_ pick
  congr 1
  rw [List.getD_eq_getElem?_getD, List.getElem?_map, List.getElem?_eq_getElem hi]; rfl
theorem pick_may {m : List (List UInt8)} {l : List Int} (h1 : mayB 12 m = true) (h2 : 1 ≤ l.length) (h3 : l.length ≤ 12) (h4 : ∀ x ∈ l, 0 ≤ x ∧ x < (m.length : Int)) : mayB 12 (pick m l) = true ∧ ((pick m l).headD []).length = (m.headD []).length := by
  obtain ⟨a1, a2, a3, a4, _⟩ := mayB_iff.1 h1
  have key : ∀ r ∈ pick m l, r.length = (m.headD []).length := fun r hr => by
    unfold pick at hr
    obtain ⟨x, hx, rfl⟩ := List.mem_map.1 hr
    have := h4 x hx
    exact may_row h1 (by omega)
  have hh : ((pick m l).headD []).length = (m.headD []).length := by
    cases e : pick m l with
    | nil => have := pick_length m l; rw [e] at this; simp at this; omega
    | cons r rs => exact key r (by rw [e]; simp)
  refine ⟨mayB_iff.2 ⟨by rw [pick_length]; exact h2, by rw [pick_length]; exact h3, by rw [hh]; exact a3, by rw [hh]; exact a4, fun r hr => by rw [hh]; exact key r hr⟩, hh⟩

/-- Rows of a product are the product of these rows. -/
theorem rows_prod {a b : List (List UInt8)} {l : List Int} (ha : mayB 12 a = true) (hb : mayB 12 b = true) (h : (a.headD []).length = b.length) (ho : (rowsM a l).2 = 0) :
    mulM (rowsM a l).1 b = ((rowsM (mulM a b).1 l).1, 0) := by
  obtain ⟨_, l1, l2, l3, e⟩ := rowsM_ok ho
  obtain ⟨a1, a2, a3, a4, _⟩ := mayB_iff.1 ha
  obtain ⟨b1, b2, b3, b4, _⟩ := mayB_iff.1 hb
  obtain ⟨p1, p2⟩ := pick_may ha l1 l2 l3
  have hab := prod_may ha hb (prodAt a b)
  rw [e, mulM_ok p1 hb (by rw [p2]; exact h), mulM_ok ha hb h, rowsM_make hab l1 l2 (by rw [matOf_length]; exact l3)]
  refine Prod.ext ?_ rfl
  obtain ⟨q1, q2⟩ := pick_may hab l1 l2 (by rw [matOf_length]; exact l3)
  refine Eq.trans ?_ (mat_eq q1).symm
  rw [q2, matOf_head _ a1, pick_length, pick_length]
  refine matOf_congr fun i hi j hj => ?_
  have hx := l3 l[i] (List.getElem_mem hi)
  rw [pick_at hi, at_matOf _ (by omega) hj]
  unfold prodAt
  exact LA.sum_congr fun k _ => by rw [pick_at hi]
theorem vecM_ok {m : List (List UInt8)} {v : List UInt8} (hm : mayB 12 m = true) (h : (m.headD []).length = v.length) : vecM m v = ((List.range m.length).map (vecAt m v), 0) := by
  unfold vecM; rw [hm, decide_eq_true h]; rfl
theorem vecM_no {m : List (List UInt8)} {v : List UInt8} (h : ¬ ((vecM m v).2 = 0)) : vecM m v = ([], 4) := by
  unfold vecM at h ⊢
  split
  · rename_i h1; exact absurd (by rw [if_pos h1]) h
  · rfl
theorem vecM_may {m : List (List UInt8)} {v : List UInt8} (h : (vecM m v).2 = 0) : mayB 12 m = true ∧ (m.headD []).length = v.length := by
  unfold vecM at h
  split at h
  · rename_i h1; rw [Bool.and_eq_true] at h1; exact ⟨h1.1, of_decide_eq_true h1.2⟩
  · cases h
theorem range_at {n k : Nat} (f : Nat → UInt8) (h : k < n) : ((List.range n).map f).getD k 0 = f k := by
  rw [List.getD_eq_getElem?_getD, List.getElem?_map, List.getElem?_range h]; rfl
/-- Vec of a product is Vec of one, of Vec of the other. -/
theorem vec_prod {a b : List (List UInt8)} {v : List UInt8} (ha : mayB 12 a = true) (h : (a.headD []).length = b.length) (ho : (vecM b v).2 = 0) :
    (vecM a (vecM b v).1).2 = 0 ∧ (vecM (mulM a b).1 v).2 = 0 ∧ (vecM a (vecM b v).1).1 = (vecM (mulM a b).1 v).1 := by
  obtain ⟨hb, hv⟩ := vecM_may ho
  obtain ⟨a1, a2, a3, a4, _⟩ := mayB_iff.1 ha
  have hab := prod_may ha hb (prodAt a b)
  rw [vecM_ok hb hv, mulM_ok ha hb h]
  have e1 := vecM_ok (m := a) (v := (List.range b.length).map (vecAt b v)) ha (by rw [List.length_map, List.length_range]; exact h)
  have e2 := vecM_ok (m := matOf a.length (b.headD []).length (prodAt a b)) (v := v) hab (by rw [matOf_head _ a1]; exact hv)
  simp only [e1, e2]
  refine ⟨trivial, trivial, ?_⟩
  rw [matOf_length]
  refine List.map_congr_left fun i hi => ?_
  have hi : i < a.length := by simpa using hi
  unfold vecAt
  rw [List.length_map, List.length_range]
  have s1 : LA.sum b.length (fun k => LA.mul (LA.at_ a i k) (((List.range b.length).map fun i => LA.sum v.length fun k => LA.mul (LA.at_ b i k) (v.getD k 0)).getD k 0)) = LA.sum b.length fun k => LA.sum v.length fun q => LA.mul (LA.at_ a i k) (LA.mul (LA.at_ b k q) (v.getD q 0)) :=
    LA.sum_congr fun k hk => by rw [range_at _ hk, LA.mul_sum]
  have s2 : LA.sum v.length (fun k => LA.mul (LA.at_ (matOf a.length (b.headD []).length (prodAt a b)) i k) (v.getD k 0)) = LA.sum v.length fun q => LA.sum b.length fun k => LA.mul (LA.at_ a i k) (LA.mul (LA.at_ b k q) (v.getD q 0)) :=
    LA.sum_congr fun q hq => by
      rw [at_matOf _ hi (by omega)]; unfold prodAt; rw [LA.sum_mul]; exact LA.sum_congr fun k _ => LA.mul_assoc _ _ _
  exact s1.trans ((LA.sum_comm _ _ _).trans s2.symm)
/-- (a b) c is a (b c). -/
theorem mul_order {a b c : List (List UInt8)} (ha : mayB 12 a = true) (hb : mayB 12 b = true) (hc : mayB 12 c = true) (h : (a.headD []).length = b.length) (k : (b.headD []).length = c.length) :
    (mulM (mulM a b).1 c).2 = 0 ∧ (mulM b c).2 = 0 ∧ mulM a (mulM b c).1 = ((mulM (mulM a b).1 c).1, 0) := by
  obtain ⟨a1, a2, a3, a4, _⟩ := mayB_iff.1 ha
  obtain ⟨b1, b2, b3, b4, _⟩ := mayB_iff.1 hb
  have hab := prod_may ha hb (prodAt a b)
  have hbc := prod_may hb hc (prodAt b c)
  rw [mulM_ok ha hb h, mulM_ok hb hc k]
  rw [mulM_ok hab hc (by rw [matOf_head _ a1]; exact k), mulM_ok ha hbc (by rw [matOf_length]; exact h), matOf_length, matOf_head _ b1]
  refine ⟨rfl, rfl, Prod.ext ?_ rfl⟩
  refine matOf_congr fun i hi j hj => ?_
  have s1 : prodAt a (matOf b.length (c.headD []).length (prodAt b c)) i j = LA.sum b.length fun p => LA.sum c.length fun q => LA.mul (LA.at_ a i p) (LA.mul (LA.at_ b p q) (LA.at_ c q j)) := by
    unfold prodAt
    rw [matOf_length]
    exact LA.sum_congr fun p hp => by rw [at_matOf _ hp hj, LA.mul_sum]
  have s2 : prodAt (matOf a.length (b.headD []).length (prodAt a b)) c i j = LA.sum c.length fun q => LA.sum b.length fun p => LA.mul (LA.at_ a i p) (LA.mul (LA.at_ b p q) (LA.at_ c q j)) := by
    unfold prodAt
    exact LA.sum_congr fun q hq => by rw [at_matOf _ hi (by omega), LA.sum_mul]; exact LA.sum_congr fun p _ => LA.mul_assoc _ _ _
  exact s1.trans ((LA.sum_comm _ _ _).trans s2.symm)
/-! ### What MatrixOrder meets -/
theorem order_ones {a : List (List UInt8)} (ha : mayB 12 a = true) : ∃ L R, oneM (a.length : Int) = (L, 0) ∧ oneM ((a.headD []).length : Int) = (R, 0) ∧ mulM L a = (a, 0) ∧ mulM a R = (a, 0) := by
  obtain ⟨a1, a2, a3, a4, _⟩ := mayB_iff.1 ha
  have h1 := one_mulM ha
  have h2 := mulM_one ha
  rw [oneM_ok a1 a2] at h1
  rw [oneM_ok a3 a4] at h2
  exact ⟨_, _, oneM_ok a1 a2, oneM_ok a3 a4, h1, h2⟩
theorem order_prod {a b : List (List UInt8)} (ha : mayB 12 a = true) (hb : mayB 12 b = true) (h : (a.headD []).length = b.length) :
    ∃ AB, mulM a b = (AB, 0) ∧ mayB 12 AB = true ∧ AB.length = a.length ∧ (AB.headD []).length = (b.headD []).length :=
  ⟨_, mulM_ok ha hb h, prod_may ha hb _, matOf_length _ _ _, matOf_head _ (mayB_iff.1 ha).1⟩
theorem order_all {a b c : List (List UInt8)} (ha : mayB 12 a = true) (hb : mayB 12 b = true) (hc : mayB 12 c = true) (h : (a.headD []).length = b.length) (k : (b.headD []).length = c.length) :
    ∃ P BC, mulM (mulM a b).1 c = (P, 0) ∧ mulM b c = (BC, 0) ∧ mulM a BC = (P, 0) := by
  obtain ⟨h1, h2, h3⟩ := mul_order ha hb hc h k
  exact ⟨_, _, Prod.ext rfl h1, Prod.ext rfl h2, h3⟩
theorem order_vec {a b : List (List UInt8)} {v : List UInt8} (ha : mayB 12 a = true) (h : (a.headD []).length = b.length) (ho : (vecM b v).2 = 0) :
    ∃ U X, vecM b v = (U, 0) ∧ vecM a U = (X, 0) ∧ vecM (mulM a b).1 v = (X, 0) := by
  obtain ⟨h1, h2, h3⟩ := vec_prod ha h ho
  exact ⟨_, _, Prod.ext rfl ho, Prod.ext rfl h1, Prod.ext h3.symm h2⟩
theorem order_rows {a b : List (List UInt8)} {l : List Int} (ha : mayB 12 a = true) (hb : mayB 12 b = true) (h : (a.headD []).length = b.length) (ho : (rowsM a l).2 = 0) :
    ∃ T S, rowsM a l = (T, 0) ∧ rowsM (mulM a b).1 l = (S, 0) ∧ mulM T b = (S, 0) := by
  have h1 := rows_prod ha hb h ho
  have h2 : (rowsM (mulM a b).1 l).2 = 0 := by
    rw [← ho]
    rw [mulM_ok ha hb h]
    exact rowsM_err (prod_may ha hb _) ha (matOf_length _ _ _) l
  exact ⟨_, _, Prod.ext rfl ho, Prod.ext rfl h2, h1⟩
theorem order_bad {a b : List (List UInt8)} {l : List Int} (ha : mayB 12 a = true) (hb : mayB 12 b = true) (hl : a.length = b.length) (ho : ¬ (rowsM a l).2 = 0) : ∃ E, E ≠ 0 ∧ rowsM a l = ([], E) ∧ rowsM b l = ([], E) := by
  have h := rowsM_err ha hb hl l
  exact ⟨_, ho, Prod.ext (rowsM_bad ho) rfl, Prod.ext (rowsM_bad (by rw [← h]; exact ho)) h.symm⟩
end Go.Proofs.Ytojdodbedemkoaa
