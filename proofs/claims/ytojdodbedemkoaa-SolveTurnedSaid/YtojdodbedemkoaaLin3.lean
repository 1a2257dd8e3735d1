/- Plain linear algebra: stepped down once more it is the same; rank; a matrix turned about. No program in sight. -/
import Derived.Test.YtojdodbedemkoaaLin2
namespace Go.Proofs.Ytojdodbedemkoaa
namespace LA

theorem scale_one (r : List UInt8) : scale 1 r = r := by
  unfold scale
  have : (fun x : UInt8 => mul x 1) = id := funext fun x => mul_one x
  rw [this, List.map_id]
theorem plus_zero {r s : List UInt8} (h : r.length = s.length) : plus 0 r s = r := by
  refine List.ext_getElem? fun i => ?_
  unfold plus
  rw [List.getElem?_zipWith]
  by_cases hj : i < r.length
  · rw [List.getElem?_eq_getElem hj, List.getElem?_eq_getElem (by omega)]; simp [mul_zero]
  · rw [List.getElem?_eq_none (by omega)]
theorem tab_self (m : Mat) (f : Nat → List UInt8) (h : ∀ i, i < m.length → f i = m.getD i []) : tab m.length f = m := by
  refine List.ext_getElem (tab_length _ _) fun i h1 h2 => ?_
  have e : (tab m.length f).getD i [] = m.getD i [] := by rw [tab_row, if_pos h2, h i h2]
  rw [List.getD_eq_getElem?_getD, List.getD_eq_getElem?_getD, List.getElem?_eq_getElem h1, List.getElem?_eq_getElem h2] at e
  exact e

/-- A step at a matrix that is stepped down turns nothing. -/
theorem fix_step {m : Mat} {n d c e : Nat} {piv : Nat → Nat} (h : Ech m n d n piv) (hc : c < n) (he : e ≤ d) (h1 : ∀ i, i < e → piv i < c) (h2 : ∀ i, e ≤ i → i < d → c ≤ piv i) :
    ∃ e', step c (m, e) = (m, e') ∧ e' ≤ d ∧ (∀ i, i < e' → piv i < c + 1) ∧ ∀ i, e' ≤ i → i < d → c + 1 ≤ piv i := by
  have hd := h.dle
  rcases step_cases (m, e) c (by simp only []; omega) with ⟨a, f, es⟩ | ⟨h0, es⟩
  · have hlo : e ≤ a := f.lo
    have hhi : a < m.length := f.hi
    have hne : at_ m a c ≠ 0 := f.ne
    have hfi : ∀ i, e ≤ i → i < a → at_ m i c = 0 := f.first
    have had : a < d := by
      rcases Nat.lt_or_ge a d with h | h'
      · exact h
      · exact absurd (h.low a h' c hc) hne
    have hpa : piv a = c := by
      rcases Nat.lt_or_ge c (piv a) with h3 | h3
      · exact absurd (h.left a had c h3) hne
      · have := h2 a hlo had; omega
    have hae : a = e := by
      rcases Nat.lt_or_ge e a with h3 | h3
      · have m1 := h.mono e a h3 had
        have m2 := h2 e (Nat.le_refl _) (by omega)
        omega
      · omega
    subst hae
    refine ⟨a + 1, ?_, by omega, fun i hi => ?_, fun i hi hid => ?_⟩
    · rw [es]
      simp only []
      have i1 : at_ m a c = 1 := by rw [← hpa]; exact h.one a had
      rw [i1, inv_one, scale_one]
      congr 1
      refine tab_self m _ fun i hi => ?_
      by_cases ei : i = a
      · rw [if_pos ei, ei]
      · rw [if_neg ei]
        have er : ri a a i = i := by unfold ri; split <;> (try split) <;> (try split) <;> omega
        have ez : at_ m i c = 0 := by rw [← hpa]; exact h.clear a had i ei
        rw [er, ez, plus_zero (by rw [rect_row h.rect hi, rect_row h.rect hhi])]
    · by_cases ei : i = a
      · subst ei; omega
      · have := h1 i (by omega); omega
    · have := h.mono a i (by omega) hid; omega
  · refine ⟨e, es, he, fun i hi => by have := h1 i hi; omega, fun i hi hid => ?_⟩
    have k1 := h2 i hi hid
    by_cases ec : piv i = c
    · have := h0 i hi
      simp only [] at this
      rw [← ec, h.one i hid] at this
      exact absurd this one_ne
    · omega
theorem fix_dn {m : Mat} {n d : Nat} {piv : Nat → Nat} (h : Ech m n d n piv) : ∀ c, c ≤ n → ∃ e, dn m c = (m, e) ∧ e ≤ d ∧ (∀ i, i < e → piv i < c) ∧ ∀ i, e ≤ i → i < d → c ≤ piv i
  | 0, _ => ⟨0, rfl, Nat.zero_le _, fun i hi => by omega, fun i _ _ => Nat.zero_le _⟩
  | c + 1, hc => by
    obtain ⟨e, h0, h1, h2, h3⟩ := fix_dn h c (by omega)
    simp only [dn]; rw [h0]
    exact fix_step h (by omega) h1 h2 h3
/-- Stepped down once more it is the same. -/
theorem dn_dn {m : Mat} {n : Nat} (h : Rect m n) : dn (dn m n).1 n = dn m n := by
  obtain ⟨piv, hp⟩ := dn_ech h n
  obtain ⟨e, h0, h1, h2, h3⟩ := fix_dn hp n (Nat.le_refl _)
  rw [h0]
  have : e = (dn m n).2 := by
    rcases Nat.lt_or_ge e (dn m n).2 with h4 | h4
    · have := h3 e (Nat.le_refl _) h4
      have := hp.lt e h4
      omega
    · omega
  rw [this]

theorem Ech.ge {m : Mat} {n d c : Nat} {piv : Nat → Nat} (h : Ech m n d c piv) : ∀ i, i < d → i ≤ piv i
  | 0, _ => Nat.zero_le _
  | i + 1, hi => by
    have := Ech.ge h i (by omega)
    have := h.mono i (i + 1) (by omega) hi
    omega
theorem Ech.dn_le {m : Mat} {n d c : Nat} {piv : Nat → Nat} (h : Ech m n d c piv) : d ≤ c := by
  rcases Nat.eq_zero_or_pos d with h0 | h0
  · omega
  · have := h.ge (d - 1) (by omega)
    have := h.lt (d - 1) (by omega)
    omega
/-- As many done as columns: one after the other. -/
theorem Ech.full {m : Mat} {n : Nat} {c : Nat} {piv : Nat → Nat} (h : Ech m c n n piv) : ∀ i, i < n → piv i = i := by
  intro i hi
  have up : ∀ k, i + k < n → piv i + k ≤ piv (i + k) := by
    intro k
    induction k with
    | zero => intro _; exact Nat.le_refl _
    | succ k ih =>
      intro hk
      have := ih (by omega)
      have := h.mono (i + k) (i + (k + 1)) (by omega) hk
      omega
  have h1 := up (n - 1 - i) (by omega)
  have h2 := h.lt (i + (n - 1 - i)) (by omega)
  have h3 := h.ge i hi
  omega
/-- Fewer done than columns: a list that is not all noughts whose product with each row is 0. -/
theorem Ech.kernel {m : Mat} {n d : Nat} {piv : Nat → Nat} (h : Ech m n d n piv) (hd : d < n) : ∃ x : Nat → UInt8, Sol m n x ∧ ∃ j, j < n ∧ x j ≠ 0 := by
  have free : ∀ k, k ≤ d → (∀ i, i < k → piv i = i) ∨ ∃ c, c < n ∧ ∀ i, i < d → piv i ≠ c := by
    intro k
    induction k with
    | zero => intro _; exact .inl fun i hi => by omega
    | succ k ih =>
      intro hk
      rcases ih (by omega) with h1 | h1
      · by_cases e : piv k = k
        · refine .inl fun i hi => ?_
          by_cases ei : i = k
          · rw [ei]; exact e
          · exact h1 i (by omega)
        · refine .inr ⟨k, by omega, fun i hi => ?_⟩
          have hk1 := h.ge k (by omega)
          rcases Nat.lt_trichotomy i k with h2 | h2 | h2
          · rw [h1 i h2]; omega
          · rw [h2]; exact e
          · have := h.mono k i h2 hi; omega
      · exact .inr h1
  have hc : ∃ c, c < n ∧ ∀ i, i < d → piv i ≠ c := by
    rcases free d (Nat.le_refl _) with h1 | h1
    · exact ⟨d, hd, fun i hi => by rw [h1 i hi]; omega⟩
    · exact h1
  obtain ⟨c, hcn, hcp⟩ := hc
  refine ⟨fun j => if j = c then 1 else sum d (fun i => if piv i = j then at_ m i c else 0), ?_, c, hcn, by simp only [if_pos]; exact one_ne⟩
  rw [sol_iff]
  intro i hi
  unfold dot
  have inj : ∀ a b, a < d → b < d → piv a = piv b → a = b := by
    intro a b ha hb e
    rcases Nat.lt_trichotomy a b with h2 | h2 | h2
    · have := h.mono a b h2 hb; omega
    · exact h2
    · have := h.mono b a h2 ha; omega
  by_cases hid : i < d
  · have hpn := h.lt i hid
    rw [sum_two hpn hcn (hcp i hid)]
    · have e1 : (m.getD i []).getD (piv i) 0 = 1 := h.one i hid
      have e2 : sum d (fun k => if piv k = piv i then at_ m k c else 0) = at_ m i c := by
        rw [sum_single hid]
        · rw [if_pos rfl]
        · intro k hk hne; exact if_neg fun e => hne (inj k i hk hid e)
      simp only [if_neg (hcp i hid), if_true]
      rw [e1, one_mul, e2, mul_one]
      exact xor_self _
    · intro j hj h1 h2
      simp only [if_neg h2]
      by_cases hz : ∃ k, k < d ∧ piv k = j
      · obtain ⟨k, hk, rfl⟩ := hz
        have e : (m.getD i []).getD (piv k) 0 = 0 := h.clear k hk i (fun e => h1 (by rw [e]))
        rw [e, zero_mul]
      · rw [sum_zero (fun k hk => if_neg fun e => hz ⟨k, hk, e⟩), mul_zero]
  · refine sum_zero fun j hj => ?_
    have e : (m.getD i []).getD j 0 = 0 := h.low i (by omega) j hj
    rw [e, zero_mul]

theorem sum_add (n k : Nat) (f : Nat → UInt8) : sum (n + k) f = sum n f ^^^ sum k (fun j => f (n + j)) := by
  induction k with
  | zero => exact (xor_zero _).symm
  | succ k ih => rw [← Nat.add_assoc]; simp only [sum]; rw [ih, xor_assoc]
theorem dot_append {n k : Nat} {r s : List UInt8} (h : r.length = n) (z : Nat → UInt8) : dot (n + k) (r ++ s) z = dot n r z ^^^ dot k s (fun j => z (n + j)) := by
  unfold dot
  rw [sum_add]
  congr 1
  · refine sum_congr fun j hj => ?_
    simp only [List.getD_eq_getElem?_getD]
    rw [List.getElem?_append_left (by omega)]
  · refine sum_congr fun j hj => ?_
    simp only [List.getD_eq_getElem?_getD]
    rw [List.getElem?_append_right (by omega), show n + j - r.length = j from by omega]
theorem dot_congr {n : Nat} {r s : List UInt8} {x y : Nat → UInt8} (h : ∀ j, j < n → r.getD j 0 = s.getD j 0) (k : ∀ j, j < n → x j = y j) : dot n r x = dot n s y :=
  sum_congr fun j hj => by rw [h j hj, k j hj]

/-! ### The first n columns, of a wider matrix -/
theorem getD_take {α : Type} (l : List α) (n j : Nat) (d : α) (h : j < n) : (l.take n).getD j d = l.getD j d := by
  simp only [List.getD_eq_getElem?_getD, List.getElem?_take, if_pos h]
theorem row_take (m : Mat) (n i : Nat) : (m.map (List.take n)).getD i [] = (m.getD i []).take n := by
  simp only [List.getD_eq_getElem?_getD, List.getElem?_map]
  cases m[i]? with
  | none => simp
  | some r => rfl
theorem at_take (m : Mat) {n i j : Nat} (h : j < n) : at_ (m.map (List.take n)) i j = at_ m i j := by
  unfold at_; rw [row_take, getD_take _ _ _ _ h]
theorem seek_take (m : Mat) {n c : Nat} (h : c < n) : ∀ f a, seek (m.map (List.take n)) c f a = seek m c f a
  | 0, a => rfl
  | f + 1, a => by simp only [seek]; rw [at_take m h, seek_take m h f (a + 1)]
theorem tab_map (L : Nat) (f : Nat → List UInt8) (g : List UInt8 → List UInt8) : (tab L f).map g = tab L (fun i => g (f i)) := by
  unfold tab; rw [List.map_map]; rfl
theorem step_take {W : Mat} {d n c : Nat} (h : c < n) : (step c (W.map (List.take n), d)) = ((step c (W, d)).1.map (List.take n), (step c (W, d)).2) := by
  unfold step
  simp only []
  rw [List.length_map, seek_take W h]
  split
  · simp only [tab_map]
    refine Prod.ext ?_ rfl
    simp only []
    unfold tab
    refine List.map_congr_left fun i _ => ?_
    split
    · rw [row_take, at_take W h]; unfold scale; rw [List.map_take]
    · rw [row_take, row_take, at_take W h, at_take W h]; unfold plus scale; rw [List.take_zipWith, List.map_take]
  · rfl
theorem dn_take {W : Mat} {n : Nat} : ∀ c, c ≤ n → dn (W.map (List.take n)) c = ((dn W c).1.map (List.take n), (dn W c).2)
  | 0, _ => rfl
  | c + 1, hc => by
    simp only [dn]
    rw [dn_take c (by omega)]
    exact step_take (by omega)
theorem step_done {s : Mat × Nat} {c : Nat} (h : s.2 = s.1.length) : step c s = s := by
  rcases step_cases s c (by omega) with ⟨a, f, _⟩ | ⟨_, e⟩
  · have := f.lo; have := f.hi; omega
  · exact e
theorem dn_done {m : Mat} {n : Nat} (h : (dn m n).2 = m.length) : ∀ k, dn m (n + k) = dn m n
  | 0 => rfl
  | k + 1 => by
    rw [← Nat.add_assoc]; simp only [dn]; rw [dn_done h k]
    exact step_done (by rw [h, (dn_length m n).1])

/-! ### Square matrices -/
theorem full_iff {m : Mat} {n : Nat} (h : Rect m n) (hl : m.length = n) : (dn m n).2 = n ↔ ∀ x, Sol m n x → ∀ j, j < n → x j = 0 := by
  obtain ⟨piv, hp⟩ := dn_ech h n
  constructor
  · intro e x hx j hj
    rw [e] at hp
    have hpi := hp.full
    rw [← dn_sol h x n, sol_iff] at hx
    have h1 := hx j (by rw [(dn_length m n).1]; omega)
    unfold dot at h1
    rw [sum_single hj] at h1
    · have e1 : ((dn m n).1.getD j []).getD j 0 = 1 := by have := hp.one j hj; rw [hpi j hj] at this; exact this
      rwa [e1, one_mul] at h1
    · intro i hi hne
      have e1 : ((dn m n).1.getD j []).getD i 0 = 0 := by have := hp.clear i hi j (fun x => hne x.symm); rw [hpi i hi] at this; exact this
      rw [e1, zero_mul]
  · intro hk
    rcases Nat.lt_or_ge (dn m n).2 n with h1 | h1
    · obtain ⟨x, hx, j, hj, hne⟩ := hp.kernel h1
      exact absurd (hk x ((dn_sol h x n).1 hx) j hj) hne
    · have := (dn_length m n).2; omega
/-- m, and beside each row another one. -/
def beside (m : Mat) (s : Nat → List UInt8) : Mat := tab m.length fun i => m.getD i [] ++ s i
theorem beside_take {m : Mat} {n : Nat} (h : Rect m n) (s : Nat → List UInt8) : (beside m s).map (List.take n) = m := by
  unfold beside; rw [tab_map]
  refine tab_self m _ fun i hi => ?_
  rw [List.take_append_of_le_length (by rw [rect_row h hi]; omega), List.take_of_length_le (by rw [rect_row h hi]; omega)]
theorem beside_rect {m : Mat} {n k : Nat} (h : Rect m n) (s : Nat → List UInt8) (hs : ∀ i, i < m.length → (s i).length = k) : Rect (beside m s) (n + k) := by
  intro r hr
  obtain ⟨i, hi, rfl⟩ := row_mem hr
  unfold beside at hi ⊢
  rw [tab_length] at hi
  rw [tab_row, if_pos hi, List.length_append, rect_row h hi, hs i hi]
theorem beside_sol {m : Mat} {n k : Nat} (h : Rect m n) (s : Nat → List UInt8) (z : Nat → UInt8) :
    Sol (beside m s) (n + k) z ↔ ∀ i, i < m.length → dot n (m.getD i []) z ^^^ dot k (s i) (fun j => z (n + j)) = 0 := by
  rw [sol_iff]
  unfold beside
  rw [tab_length]
  constructor
  · intro hs i hi; have := hs i hi; rwa [tab_row, if_pos hi, dot_append (rect_row h hi)] at this
  · intro hs i hi; rw [tab_row, if_pos hi, dot_append (rect_row h hi)]; exact hs i hi
/-- A square matrix of full rank, and k columns beside it: stepped down there is 1 where row and column are the same, then columns c; and the products tell the same lists. -/
theorem beside_full {m : Mat} {n k : Nat} (h : Rect m n) (hl : m.length = n) (hf : (dn m n).2 = n) (s : Nat → List UInt8) (hs : ∀ i, i < m.length → (s i).length = k) :
    dn (beside m s) (n + k) = dn (beside m s) n ∧ (dn (beside m s) n).1.length = n ∧ (dn (beside m s) n).2 = n ∧ Rect (dn (beside m s) n).1 (n + k) ∧
    (∀ i, i < n → ∀ j, j < n → at_ (dn (beside m s) n).1 i j = if i = j then 1 else 0) ∧
    ∀ x y : Nat → UInt8, (∀ i, i < n → dot n (m.getD i []) x = dot k (s i) y) ↔ ∀ i, i < n → x i = sum k (fun j => mul (at_ (dn (beside m s) n).1 i (n + j)) (y j)) := by
  have hb := beside_rect h s hs
  have hL : (beside m s).length = n := by unfold beside; rw [tab_length]; exact hl
  have e2 : (dn (beside m s) n).2 = n := by
    have := dn_take (W := beside m s) (n := n) n (Nat.le_refl _)
    rw [beside_take h] at this
    rw [this] at hf; exact hf
  obtain ⟨piv, hp⟩ := dn_ech hb n
  rw [e2] at hp
  have hpi := hp.full
  have unit : ∀ i, i < n → ∀ j, j < n → at_ (dn (beside m s) n).1 i j = if i = j then 1 else 0 := by
    intro i hi j hj
    split
    · rename_i e; subst e; have := hp.one i hi; rwa [hpi i hi] at this
    · rename_i e; have := hp.clear j hj i e; rwa [hpi j hj] at this
  refine ⟨dn_done (by rw [e2, hL]) k, by rw [(dn_length _ n).1, hL], e2, hp.rect, unit, fun x y => ?_⟩
  have hz := dn_sol hb (fun j => if j < n then x j else y (j - n)) n
  have left : ∀ (r : List UInt8), dot n r (fun j => if j < n then x j else y (j - n)) = dot n r x := fun r => dot_congr (fun _ _ => rfl) fun j hj => if_pos hj
  rw [beside_sol h, sol_iff, (dn_length _ n).1, hL, hl] at hz
  constructor
  · intro hx i hi
    have h1 := hz.2 (fun i hi => by
      rw [left, hx i hi]
      rw [xor_eq_zero]
      exact dot_congr (fun _ _ => rfl) fun j hj => by rw [if_neg (by omega), show n + j - n = j from by omega]) i hi
    unfold dot at h1
    rw [sum_add, xor_eq_zero, sum_single hi] at h1
    · rw [show ((dn (beside m s) n).1.getD i []).getD i 0 = 1 from by have := unit i hi i hi; rwa [if_pos rfl] at this, one_mul] at h1
      simp only [if_pos hi] at h1
      rw [h1]
      exact sum_congr fun j hj => by rw [if_neg (by omega), show n + j - n = j from by omega]; rfl
    · intro j hj hne
      rw [show ((dn (beside m s) n).1.getD i []).getD j 0 = 0 from by have := unit i hi j hj; rwa [if_neg (fun e => hne e.symm)] at this, zero_mul]
  · intro hx
    have h1 := hz.1 (fun i hi => by
      unfold dot
      rw [sum_add, xor_eq_zero, sum_single hi]
      · rw [show ((dn (beside m s) n).1.getD i []).getD i 0 = 1 from by have := unit i hi i hi; rwa [if_pos rfl] at this, one_mul]
        simp only [if_pos hi]
        rw [hx i hi]
        exact sum_congr fun j hj => by rw [if_neg (by omega), show n + j - n = j from by omega]; rfl
      · intro j hj hne
        rw [show ((dn (beside m s) n).1.getD i []).getD j 0 = 0 from by have := unit i hi j hj; rwa [if_neg (fun e => hne e.symm)] at this, zero_mul])
    intro i hi
    have h2 := h1 i hi
    rw [left, xor_eq_zero] at h2
    rw [h2]
    exact dot_congr (fun _ _ => rfl) fun j hj => by rw [if_neg (by omega), show n + j - n = j from by omega]
end LA
end Go.Proofs.Ytojdodbedemkoaa
