/- Plain linear algebra: a matrix is stepped down; what holds of it then. No program in sight. -/
import Derived.Test.YtojdodbedemkoaaLin
namespace Go.Proofs.Ytojdodbedemkoaa
namespace LA

/-- The first row from a on (f rows are looked at) with something at column c. -/
def seek (m : Mat) (c : Nat) : Nat → Nat → Nat
  | 0, a => a
  | f + 1, a => if at_ m a c = 0 then seek m c f (a + 1) else a
theorem seek_spec (m : Mat) (c : Nat) : ∀ f a, a ≤ seek m c f a ∧ seek m c f a ≤ a + f ∧ (∀ i, a ≤ i → i < seek m c f a → at_ m i c = 0) ∧ (seek m c f a < a + f → at_ m (seek m c f a) c ≠ 0)
  | 0, a => ⟨Nat.le_refl _, Nat.le_refl _, fun i h1 h2 => by simp only [seek] at h2; omega, fun h => by simp only [seek] at h; omega⟩
  | f + 1, a => by
    obtain ⟨h1, h2, h3, h4⟩ := seek_spec m c f (a + 1)
    simp only [seek]
    split
    · rename_i h0
      refine ⟨by omega, by omega, fun i i1 i2 => ?_, fun i1 => h4 (by omega)⟩
      by_cases e : i = a
      · subst e; exact h0
      · exact h3 i (by omega) i2
    · rename_i h0
      exact ⟨Nat.le_refl _, by omega, fun i i1 i2 => by omega, fun _ => h0⟩

def tab (n : Nat) (f : Nat → List UInt8) : Mat := (List.range n).map f
theorem tab_length (n : Nat) (f : Nat → List UInt8) : (tab n f).length = n := by unfold tab; rw [List.length_map, List.length_range]
theorem tab_row (n : Nat) (f : Nat → List UInt8) (i : Nat) : (tab n f).getD i [] = if i < n then f i else [] := by
  unfold tab
  rw [List.getD_eq_getElem?_getD, List.getElem?_map]
  by_cases h : i < n
  · rw [List.getElem?_range h, if_pos h]; rfl
  · rw [List.getElem?_eq_none (by rw [List.length_range]; omega), if_neg h]; rfl
/-- Where row i was ahead of row a's going up to place d. -/
def ri (d a i : Nat) : Nat := if i < d then i else if i = d then a else if i ≤ a then i - 1 else i
/-- One column. -/
def step (c : Nat) (s : Mat × Nat) : Mat × Nat :=
  let a := seek s.1 c (s.1.length - s.2) s.2
  if a < s.1.length then
    let p := scale (inv (at_ s.1 a c)) (s.1.getD a [])
    (tab s.1.length fun i => if i = s.2 then p else plus (at_ s.1 (ri s.2 a i) c) (s.1.getD (ri s.2 a i) []) p, s.2 + 1)
  else s
/-- The first c columns. -/
def dn (m : Mat) : Nat → Mat × Nat
  | 0 => (m, 0)
  | c + 1 => step c (dn m c)

theorem rect_row {m : Mat} {n i : Nat} (h : Rect m n) (hi : i < m.length) : (m.getD i []).length = n := by
  rw [List.getD_eq_getElem?_getD, List.getElem?_eq_getElem hi]
  exact h _ (List.getElem_mem hi)
theorem mem_row {m : Mat} {i : Nat} (hi : i < m.length) : m.getD i [] ∈ m := by
  rw [List.getD_eq_getElem?_getD, List.getElem?_eq_getElem hi]; exact List.getElem_mem hi
theorem row_mem {m : Mat} {r : List UInt8} (h : r ∈ m) : ∃ i, i < m.length ∧ m.getD i [] = r := by
  obtain ⟨i, hi, e⟩ := List.mem_iff_getElem.1 h
  exact ⟨i, hi, by rw [List.getD_eq_getElem?_getD, List.getElem?_eq_getElem hi]; exact e⟩
theorem at_out {m : Mat} {i j : Nat} (hi : m.length ≤ i) : at_ m i j = 0 := by
  have e : m.getD i [] = [] := by rw [List.getD_eq_getElem?_getD, List.getElem?_eq_none hi]; rfl
  unfold at_; rw [e]; rfl
theorem sol_iff {m : Mat} {n : Nat} {x : Nat → UInt8} : Sol m n x ↔ ∀ i, i < m.length → dot n (m.getD i []) x = 0 := by
  constructor
  · intro h i hi; exact h _ (mem_row hi)
  · intro h r hr; obtain ⟨i, hi, rfl⟩ := row_mem hr; exact h i hi

/-- What a step does where a row is found. -/
structure Found (s : Mat × Nat) (c a : Nat) : Prop where
  lo : s.2 ≤ a
  hi : a < s.1.length
  ne : at_ s.1 a c ≠ 0
  first : ∀ i, s.2 ≤ i → i < a → at_ s.1 i c = 0
theorem step_cases (s : Mat × Nat) (c : Nat) (hd : s.2 ≤ s.1.length) :
    (∃ a, Found s c a ∧ step c s = (tab s.1.length fun i => if i = s.2 then scale (inv (at_ s.1 a c)) (s.1.getD a []) else plus (at_ s.1 (ri s.2 a i) c) (s.1.getD (ri s.2 a i) []) (scale (inv (at_ s.1 a c)) (s.1.getD a [])), s.2 + 1))
    ∨ ((∀ i, s.2 ≤ i → at_ s.1 i c = 0) ∧ step c s = s) := by
  obtain ⟨h1, h2, h3, h4⟩ := seek_spec s.1 c (s.1.length - s.2) s.2
  by_cases h : seek s.1 c (s.1.length - s.2) s.2 < s.1.length
  · refine .inl ⟨_, ⟨h1, h, h4 (by omega), h3⟩, ?_⟩
    unfold step; simp only []; rw [if_pos h]
  · refine .inr ⟨fun i hi => ?_, by unfold step; simp only []; rw [if_neg h]⟩
    by_cases e : i < s.1.length
    · exact h3 i hi (by omega)
    · exact at_out (by omega)

theorem ri_lt {d a i n : Nat} (_ : d ≤ a) (h2 : a < n) (h : i < n) : ri d a i < n := by unfold ri; split <;> (try split) <;> (try split) <;> omega
theorem ri_surj {d a r n : Nat} (h1 : d ≤ a) (h2 : a < n) (h : r < n) : ∃ i, i < n ∧ ri d a i = r ∧ (i = d ↔ r = a) := by
  by_cases c1 : r < d
  · exact ⟨r, h, by unfold ri; rw [if_pos c1], by omega⟩
  · by_cases c2 : r = a
    · exact ⟨d, by omega, by unfold ri; rw [if_neg (by omega), if_pos rfl]; exact c2.symm, by omega⟩
    · by_cases c3 : r < a
      · exact ⟨r + 1, by omega, by unfold ri; rw [if_neg (by omega), if_neg (by omega), if_pos (by omega)]; omega, by omega⟩
      · exact ⟨r, h, by unfold ri; rw [if_neg (by omega), if_neg (by omega), if_neg (by omega)], by omega⟩

theorem step_length (s : Mat × Nat) (c : Nat) (hd : s.2 ≤ s.1.length) : (step c s).1.length = s.1.length ∧ (step c s).2 ≤ (step c s).1.length ∧ s.2 ≤ (step c s).2 ∧ (step c s).2 ≤ s.2 + 1 := by
  rcases step_cases s c hd with ⟨a, f, e⟩ | ⟨_, e⟩
  · have h1 := f.lo
    have h2 := f.hi
    rw [e]
    refine ⟨tab_length _ _, ?_, ?_, ?_⟩ <;> simp only [tab_length] <;> omega
  · rw [e]; refine ⟨rfl, hd, Nat.le_refl _, Nat.le_succ _⟩
theorem step_rect {s : Mat × Nat} {c n : Nat} (hd : s.2 ≤ s.1.length) (h : Rect s.1 n) : Rect (step c s).1 n := by
  rcases step_cases s c hd with ⟨a, f, e⟩ | ⟨_, e⟩
  · rw [e]
    intro r hr
    obtain ⟨i, hi, rfl⟩ := row_mem hr
    rw [tab_length] at hi
    simp only [tab_row, if_pos hi]
    have hp : (scale (inv (at_ s.1 a c)) (s.1.getD a [])).length = n := by rw [scale_length]; exact rect_row h f.hi
    have hq : (s.1.getD (ri s.2 a i) []).length = n := rect_row h (ri_lt f.lo f.hi hi)
    split
    · exact hp
    · rw [plus_length (by omega)]; exact hq
  · rw [e]; exact h
theorem step_sol {s : Mat × Nat} {c n : Nat} (hd : s.2 ≤ s.1.length) (h : Rect s.1 n) (x : Nat → UInt8) : Sol (step c s).1 n x ↔ Sol s.1 n x := by
  rcases step_cases s c hd with ⟨a, f, e⟩ | ⟨_, e⟩
  · rw [e, sol_iff, sol_iff]
    simp only [tab_length]
    have hp : (scale (inv (at_ s.1 a c)) (s.1.getD a [])).length = n := by rw [scale_length]; exact rect_row h f.hi
    constructor
    · intro hs
      have h0 := hs s.2 (by have := f.lo; have := f.hi; omega)
      rw [tab_row, if_pos (by have := f.lo; have := f.hi; omega), if_pos rfl] at h0
      intro r hr
      obtain ⟨i, hi, e1, e2⟩ := ri_surj f.lo f.hi hr
      have h1 := hs i hi
      rw [tab_row, if_pos hi] at h1
      by_cases ei : i = s.2
      · rw [e2.1 ei]
        rw [dot_scale, mul_eq_zero] at h0
        exact h0.resolve_left (inv_ne f.ne)
      · rw [if_neg ei, dot_plus (by rw [hp]; exact rect_row h (ri_lt f.lo f.hi hi)), h0, mul_zero, xor_zero, e1] at h1
        exact h1
    · intro hs i hi
      have h0 : dot n (scale (inv (at_ s.1 a c)) (s.1.getD a [])) x = 0 := by rw [dot_scale, hs a f.hi, mul_zero]
      rw [tab_row, if_pos hi]
      split
      · exact h0
      · rw [dot_plus (by rw [hp]; exact rect_row h (ri_lt f.lo f.hi hi)), h0, mul_zero, xor_zero]
        exact hs _ (ri_lt f.lo f.hi hi)
  · rw [e]

/-- Stepped down, as far as column c: d rows are done, row i begins at column piv i. -/
structure Ech (m : Mat) (n d c : Nat) (piv : Nat → Nat) : Prop where
  rect : Rect m n
  dle : d ≤ m.length
  lt : ∀ i, i < d → piv i < c
  mono : ∀ i j, i < j → j < d → piv i < piv j
  one : ∀ i, i < d → at_ m i (piv i) = 1
  clear : ∀ i, i < d → ∀ k, k ≠ i → at_ m k (piv i) = 0
  left : ∀ i, i < d → ∀ j, j < piv i → at_ m i j = 0
  low : ∀ i, d ≤ i → ∀ j, j < c → at_ m i j = 0

theorem Ech.step {s : Mat × Nat} {n c : Nat} {piv : Nat → Nat} (h : Ech s.1 n s.2 c piv) : ∃ piv', Ech (step c s).1 n (step c s).2 (c + 1) piv' := by
  rcases step_cases s c h.dle with ⟨a, f, e⟩ | ⟨h0, e⟩
  · have hr := step_rect (c := c) h.dle h.rect
    have hl := step_length s c h.dle
    rw [e] at hr hl ⊢
    simp only [tab_length] at hr hl
    have hp : (scale (inv (at_ s.1 a c)) (s.1.getD a [])).length = n := by rw [scale_length]; exact rect_row h.rect f.hi
    have key : ∀ i j, i < s.1.length → at_ (tab s.1.length fun i => if i = s.2 then scale (inv (at_ s.1 a c)) (s.1.getD a []) else plus (at_ s.1 (ri s.2 a i) c) (s.1.getD (ri s.2 a i) []) (scale (inv (at_ s.1 a c)) (s.1.getD a []))) i j
        = if i = s.2 then mul (at_ s.1 a j) (inv (at_ s.1 a c)) else at_ s.1 (ri s.2 a i) j ^^^ mul (mul (at_ s.1 a j) (inv (at_ s.1 a c))) (at_ s.1 (ri s.2 a i) c) := by
      intro i j hi
      show (List.getD (tab _ _) i []).getD j 0 = _
      rw [tab_row, if_pos hi]
      split
      · exact scale_at _ _ _
      · rw [plus_at (by rw [hp]; exact rect_row h.rect (ri_lt f.lo f.hi hi)), scale_at]; rfl
    have hlo := f.lo
    have hhi := f.hi
    have pz : ∀ j, j < c → at_ s.1 a j = 0 := fun j hj => h.low a hlo j hj
    have pv : ∀ i, i < s.2 → at_ s.1 a (piv i) = 0 := fun i hi => h.clear i hi a (by omega)
    have p1 : mul (at_ s.1 a c) (inv (at_ s.1 a c)) = 1 := mul_inv f.ne
    have big : ∀ i j, s.1.length ≤ i → at_ (tab s.1.length fun i => if i = s.2 then scale (inv (at_ s.1 a c)) (s.1.getD a []) else plus (at_ s.1 (ri s.2 a i) c) (s.1.getD (ri s.2 a i) []) (scale (inv (at_ s.1 a c)) (s.1.getD a []))) i j = 0 :=
      fun i j hi => at_out (by rw [tab_length]; exact hi)
    refine ⟨fun i => if i = s.2 then c else piv i, hr, by simp only [tab_length]; omega, fun i hi => ?_, fun i j hij hj => ?_, fun i hi => ?_, fun i hi k hk => ?_, fun i hi j hj => ?_, fun i hi j hj => ?_⟩
    · simp only [] at hi ⊢
      split
      · omega
      · have := h.lt i (by omega); omega
    · simp only [] at hj ⊢
      rw [if_neg (by omega)]
      split
      · have := h.lt i (by omega); omega
      · exact h.mono i j hij (by omega)
    · simp only [] at hi ⊢
      rw [key i _ (by omega)]
      by_cases ei : i = s.2
      · rw [if_pos ei, if_pos ei]; exact p1
      · rw [if_neg ei, if_neg ei, pv i (by omega), zero_mul, zero_mul, xor_zero]
        have : ri s.2 a i = i := by unfold ri; rw [if_pos (by omega)]
        rw [this]; exact h.one i (by omega)
    · simp only [] at hi ⊢
      by_cases hkl : k < s.1.length
      · rw [key k _ hkl]
        by_cases ei : i = s.2
        · rw [if_pos ei, if_neg (by omega), p1, one_mul, xor_self]
        · rw [if_neg ei, pv i (by omega), zero_mul, zero_mul, xor_zero]
          split
          · rfl
          · refine h.clear i (by omega) _ ?_
            unfold ri; split
            · exact hk
            · split <;> (try split) <;> omega
      · exact big k _ (by omega)
    · simp only [] at hi hj ⊢
      rw [key i _ (by omega)]
      by_cases ei : i = s.2
      · rw [if_pos ei] at hj
        rw [if_pos ei, pz j hj, zero_mul]
      · rw [if_neg ei] at hj
        have hc := h.lt i (by omega)
        rw [if_neg ei, pz j (by omega), zero_mul, zero_mul, xor_zero]
        have : ri s.2 a i = i := by unfold ri; rw [if_pos (by omega)]
        rw [this]; exact h.left i (by omega) j hj
    · simp only [] at hi ⊢
      by_cases hkl : i < s.1.length
      · rw [key i _ hkl, if_neg (by omega)]
        have hge : s.2 ≤ ri s.2 a i := by unfold ri; rw [if_neg (by omega), if_neg (by omega)]; split <;> omega
        by_cases ej : j = c
        · subst ej; rw [p1, one_mul, xor_self]
        · rw [pz j (by omega), zero_mul, zero_mul, xor_zero]; exact h.low _ hge j (by omega)
      · exact big i _ (by omega)
  · rw [e]
    refine ⟨piv, h.rect, h.dle, fun i hi => by have := h.lt i hi; omega, h.mono, h.one, h.clear, h.left, fun i hi j hj => ?_⟩
    by_cases ej : j = c
    · subst ej; exact h0 i hi
    · exact h.low i hi j (by omega)

theorem dn_length (m : Mat) : ∀ c, (dn m c).1.length = m.length ∧ (dn m c).2 ≤ m.length
  | 0 => ⟨rfl, Nat.zero_le _⟩
  | c + 1 => by
    obtain ⟨h1, h2⟩ := dn_length m c
    obtain ⟨h3, h4, _⟩ := step_length (dn m c) c (by omega)
    simp only [dn]; omega
theorem dn_ech {m : Mat} {n : Nat} (h : Rect m n) : ∀ c, ∃ piv, Ech (dn m c).1 n (dn m c).2 c piv
  | 0 => ⟨fun _ => 0, h, Nat.zero_le _, fun i hi => absurd hi (by simp [dn]), fun i j _ hj => absurd hj (by simp [dn]), fun i hi => absurd hi (by simp [dn]), fun i hi => absurd hi (by simp [dn]), fun i hi => absurd hi (by simp [dn]), fun i _ j hj => absurd hj (by omega)⟩
  | c + 1 => by
    obtain ⟨piv, hp⟩ := dn_ech h c
    exact Ech.step hp
theorem dn_sol {m : Mat} {n : Nat} (h : Rect m n) (x : Nat → UInt8) : ∀ c, Sol (dn m c).1 n x ↔ Sol m n x
  | 0 => Iff.rfl
  | c + 1 => by
    obtain ⟨piv, hp⟩ := dn_ech h c
    exact (step_sol hp.dle hp.rect x).trans (dn_sol h x c)
end LA
end Go.Proofs.Ytojdodbedemkoaa
