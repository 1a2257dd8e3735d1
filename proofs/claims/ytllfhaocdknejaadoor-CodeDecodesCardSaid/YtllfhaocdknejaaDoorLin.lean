/- Plain linear algebra over the field of 256 numbers: sums, products of rows, stepping down. No program in sight. -/
import Derived.Test.YtllfhaocdknejaaDoorFieldMath
namespace Go.Proofs.YtllfhaocdknejaaDoor
namespace LA

/-- The field's product on bytes. -/
def mul (a b : UInt8) : UInt8 := UInt8.ofNat (FM.mul a.toNat b.toNat)
def inv (a : UInt8) : UInt8 := UInt8.ofNat (FM.inv a.toNat)

theorem lt (a : UInt8) : a.toNat < 256 := a.toNat_lt
theorem mul_toNat (a b : UInt8) : (mul a b).toNat = FM.mul a.toNat b.toNat := by
  unfold mul; rw [UInt8.toNat_ofNat']; exact Nat.mod_eq_of_lt (FM.mul_lt _ _)
theorem inv_toNat (a : UInt8) : (inv a).toNat = FM.inv a.toNat := by
  unfold inv; rw [UInt8.toNat_ofNat']; exact Nat.mod_eq_of_lt (FM.inv_lt _)
theorem ext {a b : UInt8} (h : a.toNat = b.toNat) : a = b := UInt8.toNat_inj.1 h
theorem xor_toNat (a b : UInt8) : (a ^^^ b).toNat = a.toNat ^^^ b.toNat := UInt8.toNat_xor a b
theorem zero_toNat : (0 : UInt8).toNat = 0 := rfl
theorem one_toNat : (1 : UInt8).toNat = 1 := rfl

theorem mul_comm (a b : UInt8) : mul a b = mul b a := ext (by rw [mul_toNat, mul_toNat, FM.mul_comm])
theorem mul_assoc (a b c : UInt8) : mul (mul a b) c = mul a (mul b c) := ext (by simp only [mul_toNat]; exact FM.mul_assoc (lt a) (lt b) (lt c))
theorem zero_mul (a : UInt8) : mul 0 a = 0 := ext (by rw [mul_toNat, zero_toNat, FM.zero_mul])
theorem mul_zero (a : UInt8) : mul a 0 = 0 := by rw [mul_comm, zero_mul]
theorem one_mul (a : UInt8) : mul 1 a = a := ext (by rw [mul_toNat, one_toNat, FM.one_mul (lt a)])
theorem mul_one (a : UInt8) : mul a 1 = a := by rw [mul_comm, one_mul]
theorem mul_xor (a b c : UInt8) : mul a (b ^^^ c) = mul a b ^^^ mul a c := ext (by simp only [mul_toNat, xor_toNat]; exact FM.mul_xor (lt a) (lt b) (lt c))
theorem xor_mul (a b c : UInt8) : mul (a ^^^ b) c = mul a c ^^^ mul b c := by rw [mul_comm, mul_xor, mul_comm c a, mul_comm c b]
theorem mul_inv {a : UInt8} (h : a ≠ 0) : mul a (inv a) = 1 := ext (by
  rw [mul_toNat, inv_toNat, one_toNat]
  refine FM.mul_inv ?_ (lt a)
  rcases Nat.eq_zero_or_pos a.toNat with h0 | h0
  · exact absurd (ext h0) h
  · exact h0)
theorem mul_eq_zero {a b : UInt8} : mul a b = 0 ↔ a = 0 ∨ b = 0 := by
  constructor
  · intro h
    have : (mul a b).toNat = 0 := by rw [h]; rfl
    rw [mul_toNat, FM.mul_eq_zero] at this
    rcases this with h | h
    · exact .inl (ext h)
    · exact .inr (ext h)
  · rintro (rfl | rfl)
    · exact zero_mul b
    · exact mul_zero a
theorem inv_ne {a : UInt8} (h : a ≠ 0) : inv a ≠ 0 := fun e => by
  have := mul_inv h
  rw [e, mul_zero] at this
  exact absurd this (by decide)
theorem one_ne : (1 : UInt8) ≠ 0 := by decide
theorem inv_one : inv 1 = 1 := by
  have := mul_inv one_ne
  rwa [one_mul] at this
theorem xor_self (a : UInt8) : a ^^^ a = 0 := UInt8.xor_self
theorem xor_zero (a : UInt8) : a ^^^ 0 = a := UInt8.xor_zero
theorem zero_xor (a : UInt8) : 0 ^^^ a = a := UInt8.zero_xor
theorem xor_comm (a b : UInt8) : a ^^^ b = b ^^^ a := UInt8.xor_comm a b
theorem xor_assoc (a b c : UInt8) : a ^^^ b ^^^ c = a ^^^ (b ^^^ c) := UInt8.xor_assoc a b c
theorem xor_left_comm (a b c : UInt8) : a ^^^ (b ^^^ c) = b ^^^ (a ^^^ c) := by rw [← xor_assoc, xor_comm a b, xor_assoc]
theorem xor_eq_zero {a b : UInt8} : a ^^^ b = 0 ↔ a = b := by
  constructor
  · intro h
    have : a ^^^ b ^^^ b = 0 ^^^ b := by rw [h]
    rwa [xor_assoc, xor_self, xor_zero, zero_xor] at this
  · rintro rfl; exact xor_self a

/-- f 0 + .. + f (n - 1). -/
def sum : Nat → (Nat → UInt8) → UInt8
  | 0, _ => 0
  | n + 1, f => sum n f ^^^ f n

theorem sum_congr {n : Nat} {f g : Nat → UInt8} (h : ∀ i, i < n → f i = g i) : sum n f = sum n g := by
  induction n with
  | zero => rfl
  | succ n ih => simp only [sum]; rw [ih (fun i hi => h i (by omega)), h n (by omega)]
theorem sum_zero {n : Nat} {f : Nat → UInt8} (h : ∀ i, i < n → f i = 0) : sum n f = 0 := by
  induction n with
  | zero => rfl
  | succ n ih => simp only [sum]; rw [ih (fun i hi => h i (by omega)), h n (by omega), xor_self]
theorem sum_xor (n : Nat) (f g : Nat → UInt8) : sum n (fun i => f i ^^^ g i) = sum n f ^^^ sum n g := by
  induction n with
  | zero => exact (xor_self 0).symm
  | succ n ih => simp only [sum]; rw [ih, xor_assoc, xor_assoc]; congr 1; rw [xor_left_comm]
theorem mul_sum (a : UInt8) (n : Nat) (f : Nat → UInt8) : mul a (sum n f) = sum n (fun i => mul a (f i)) := by
  induction n with
  | zero => exact mul_zero a
  | succ n ih => simp only [sum]; rw [mul_xor, ih]
theorem sum_mul (a : UInt8) (n : Nat) (f : Nat → UInt8) : mul (sum n f) a = sum n (fun i => mul (f i) a) := by
  rw [mul_comm, mul_sum]; exact sum_congr fun i _ => mul_comm _ _
theorem sum_comm (n k : Nat) (f : Nat → Nat → UInt8) : sum n (fun i => sum k (fun j => f i j)) = sum k (fun j => sum n (fun i => f i j)) := by
  induction n with
  | zero => exact (sum_zero fun _ _ => rfl).symm
  | succ n ih => simp only [sum]; rw [ih, ← sum_xor]
theorem sum_single {n p : Nat} {f : Nat → UInt8} (hp : p < n) (h : ∀ i, i < n → i ≠ p → f i = 0) : sum n f = f p := by
  induction n with
  | zero => omega
  | succ n ih =>
    simp only [sum]
    by_cases e : p = n
    · subst e; rw [sum_zero (fun i hi => h i (by omega) (by omega)), zero_xor]
    · rw [ih (by omega) (fun i hi hn => h i (by omega) hn), h n (by omega) (by omega), xor_zero]
theorem sum_two {n p q : Nat} {f : Nat → UInt8} (hp : p < n) (hq : q < n) (hpq : p ≠ q) (h : ∀ i, i < n → i ≠ p → i ≠ q → f i = 0) : sum n f = f p ^^^ f q := by
  have e : sum n f = sum n (fun i => (if i = p then f p else 0) ^^^ (if i = q then f q else 0)) := by
    refine sum_congr fun i hi => ?_
    by_cases h1 : i = p
    · subst h1; rw [if_pos rfl, if_neg hpq, xor_zero]
    · by_cases h2 : i = q
      · subst h2; rw [if_neg h1, if_pos rfl, zero_xor]
      · rw [if_neg h1, if_neg h2, xor_self, h i hi h1 h2]
  rw [e, sum_xor, sum_single hp (fun i _ hn => if_neg hn), sum_single hq (fun i _ hn => if_neg hn), if_pos rfl, if_pos rfl]

abbrev Mat := List (List UInt8)
/-- The number at row i, column j; 0 outside. -/
def at_ (m : Mat) (i j : Nat) : UInt8 := (m.getD i []).getD j 0
/-- All rows have n numbers. -/
def Rect (m : Mat) (n : Nat) : Prop := ∀ r ∈ m, r.length = n
/-- A row times a list. -/
def dot (n : Nat) (r : List UInt8) (x : Nat → UInt8) : UInt8 := sum n (fun j => mul (r.getD j 0) (x j))
/-- Lists whose product with each row is 0. -/
def Sol (m : Mat) (n : Nat) (x : Nat → UInt8) : Prop := ∀ r ∈ m, dot n r x = 0

/-- A row times a number. -/
def scale (k : UInt8) (r : List UInt8) : List UInt8 := r.map (fun x => mul x k)
/-- A row and another one so often. -/
def plus (k : UInt8) (r s : List UInt8) : List UInt8 := List.zipWith (fun x y => x ^^^ mul y k) r s

theorem getD_map0 {α : Type} (f : α → UInt8) (d : α) (h : f d = 0) (r : List α) (j : Nat) : (r.map f).getD j 0 = f (r.getD j d) := by
  simp only [List.getD_eq_getElem?_getD, List.getElem?_map]
  cases r[j]? with
  | none => exact h.symm
  | some x => rfl
theorem scale_at (k : UInt8) (r : List UInt8) (j : Nat) : (scale k r).getD j 0 = mul (r.getD j 0) k := getD_map0 (fun x => mul x k) 0 (zero_mul k) r j
theorem scale_length (k : UInt8) (r : List UInt8) : (scale k r).length = r.length := List.length_map _
theorem plus_length {k : UInt8} {r s : List UInt8} (h : r.length = s.length) : (plus k r s).length = r.length := by
  unfold plus; rw [List.length_zipWith]; omega
theorem plus_at {k : UInt8} {r s : List UInt8} (h : r.length = s.length) (j : Nat) : (plus k r s).getD j 0 = r.getD j 0 ^^^ mul (s.getD j 0) k := by
  unfold plus
  simp only [List.getD_eq_getElem?_getD, List.getElem?_zipWith]
  by_cases hj : j < r.length
  · rw [List.getElem?_eq_getElem hj, List.getElem?_eq_getElem (by omega)]; rfl
  · rw [List.getElem?_eq_none (by omega), List.getElem?_eq_none (by omega)]; simp [zero_mul]
theorem dot_scale (n : Nat) (k : UInt8) (r : List UInt8) (x : Nat → UInt8) : dot n (scale k r) x = mul k (dot n r x) := by
  unfold dot; rw [mul_sum]; refine sum_congr fun j _ => ?_
  rw [scale_at, mul_comm _ k, mul_assoc]
theorem dot_plus {n : Nat} {k : UInt8} {r s : List UInt8} (h : r.length = s.length) (x : Nat → UInt8) : dot n (plus k r s) x = dot n r x ^^^ mul k (dot n s x) := by
  unfold dot; rw [mul_sum, ← sum_xor]; refine sum_congr fun j _ => ?_
  rw [plus_at h, xor_mul, mul_comm (s.getD j 0) k, mul_assoc]
end LA
end Go.Proofs.YtllfhaocdknejaaDoor
/- Plain linear algebra: a matrix is stepped down; what holds of it then. No program in sight. -/
namespace Go.Proofs.YtllfhaocdknejaaDoor
namespace LA

/-- The first row from a on (f rows are looked at) with something at column c. -/
def seek (m : Mat) (c : Nat) : Nat → Nat → Nat
  | 0, a => a
  | f + 1, a => if at_ m a c = 0 then seek m c f (a + 1) else a
theorem seek_spec (m : Mat) (c : Nat) : ∀ f a, a ≤ seek m c f a ∧ seek m c f a ≤ a + f ∧ (∀ i, a ≤ i → i < seek m c f a → at_ m i c = 0) ∧ (seek m c f a < a + f → at_ m (seek m c f a) c ≠ 0)
  | 0, a => ⟨Nat.le_refl _, Nat.le_refl _, fun i h1 h2 => by simp only [seek] at h2; omega, fun h => by simp only [seek] at h; omega⟩
  | f + 1, a => by
    obtain ⟨h1, h2, h3, h4⟩ := seek_spec m c f (a + 1)
    simp only [seek]
    split
    · rename_i h0
      refine ⟨by omega, by omega, fun i i1 i2 => ?_, fun i1 => h4 (by omega)⟩
      by_cases e : i = a
      · subst e; exact h0
      · exact h3 i (by omega) i2
    · rename_i h0
      exact ⟨Nat.le_refl _, by omega, fun i i1 i2 => by omega, fun _ => h0⟩

def tab (n : Nat) (f : Nat → List UInt8) : Mat := (List.range n).map f
theorem tab_length (n : Nat) (f : Nat → List UInt8) : (tab n f).length = n := by unfold tab; rw [List.length_map, List.length_range]
theorem tab_row (n : Nat) (f : Nat → List UInt8) (i : Nat) : (tab n f).getD i [] = if i < n then f i else [] := by
  unfold tab
  rw [List.getD_eq_getElem?_getD, List.getElem?_map]
  by_cases h : i < n
  · rw [List.getElem?_range h, if_pos h]; rfl
  · rw [List.getElem?_eq_none (by rw [List.length_range]; omega), if_neg h]; rfl
/-- Where row i was ahead of row a's going up to place d. -/
def ri (d a i : Nat) : Nat := if i < d then i else if i = d then a else if i ≤ a then i - 1 else i
/-- One column. -/
def step (c : Nat) (s : Mat × Nat) : Mat × Nat :=
  let a := seek s.1 c (s.1.length - s.2) s.2
  if a < s.1.length then
    let p := scale (inv (at_ s.1 a c)) (s.1.getD a [])
    (tab s.1.length fun i => if i = s.2 then p else plus (at_ s.1 (ri s.2 a i) c) (s.1.getD (ri s.2 a i) []) p, s.2 + 1)
  else s
/-- The first c columns. -/
def dn (m : Mat) : Nat → Mat × Nat
  | 0 => (m, 0)
  | c + 1 => step c (dn m c)

theorem rect_row {m : Mat} {n i : Nat} (h : Rect m n) (hi : i < m.length) : (m.getD i []).length = n := by
  rw [List.getD_eq_getElem?_getD, List.getElem?_eq_getElem hi]
  exact h _ (List.getElem_mem hi)
theorem mem_row {m : Mat} {i : Nat} (hi : i < m.length) : m.getD i [] ∈ m := by
  rw [List.getD_eq_getElem?_getD, List.getElem?_eq_getElem hi]; exact List.getElem_mem hi
theorem row_mem {m : Mat} {r : List UInt8} (h : r ∈ m) : ∃ i, i < m.length ∧ m.getD i [] = r := by
  obtain ⟨i, hi, e⟩ := List.mem_iff_getElem.1 h
  exact ⟨i, hi, by rw [List.getD_eq_getElem?_getD, List.getElem?_eq_getElem hi]; exact e⟩
theorem at_out {m : Mat} {i j : Nat} (hi : m.length ≤ i) : at_ m i j = 0 := by
  have e : m.getD i [] = [] := by rw [List.getD_eq_getElem?_getD, List.getElem?_eq_none hi]; rfl
  unfold at_; rw [e]; rfl
theorem sol_iff {m : Mat} {n : Nat} {x : Nat → UInt8} : Sol m n x ↔ ∀ i, i < m.length → dot n (m.getD i []) x = 0 := by
  constructor
  · intro h i hi; exact h _ (mem_row hi)
  · intro h r hr; obtain ⟨i, hi, rfl⟩ := row_mem hr; exact h i hi

/-- What a step does where a row is found. -/
structure Found (s : Mat × Nat) (c a : Nat) : Prop where
  lo : s.2 ≤ a
  hi : a < s.1.length
  ne : at_ s.1 a c ≠ 0
  first : ∀ i, s.2 ≤ i → i < a → at_ s.1 i c = 0
theorem step_cases (s : Mat × Nat) (c : Nat) (hd : s.2 ≤ s.1.length) :
    (∃ a, Found s c a ∧ step c s = (tab s.1.length fun i => if i = s.2 then scale (inv (at_ s.1 a c)) (s.1.getD a []) else plus (at_ s.1 (ri s.2 a i) c) (s.1.getD (ri s.2 a i) []) (scale (inv (at_ s.1 a c)) (s.1.getD a [])), s.2 + 1))
    ∨ ((∀ i, s.2 ≤ i → at_ s.1 i c = 0) ∧ step c s = s) := by
  obtain ⟨h1, h2, h3, h4⟩ := seek_spec s.1 c (s.1.length - s.2) s.2
  by_cases h : seek s.1 c (s.1.length - s.2) s.2 < s.1.length
  · refine .inl ⟨_, ⟨h1, h, h4 (by omega), h3⟩, ?_⟩
    unfold step; simp only []; rw [if_pos h]
  · refine .inr ⟨fun i hi => ?_, by unfold step; simp only []; rw [if_neg h]⟩
    by_cases e : i < s.1.length
    · exact h3 i hi (by omega)
    · exact at_out (by omega)

theorem ri_lt {d a i n : Nat} (_ : d ≤ a) (h2 : a < n) (h : i < n) : ri d a i < n := by unfold ri; split <;> (try split) <;> (try split) <;> omega
theorem ri_surj {d a r n : Nat} (h1 : d ≤ a) (h2 : a < n) (h : r < n) : ∃ i, i < n ∧ ri d a i = r ∧ (i = d ↔ r = a) := by
  by_cases c1 : r < d
  · exact ⟨r, h, by unfold ri; rw [if_pos c1], by omega⟩
  · by_cases c2 : r = a
    · exact ⟨d, by omega, by unfold ri; rw [if_neg (by omega), if_pos rfl]; exact c2.symm, by omega⟩
    · by_cases c3 : r < a
      · exact ⟨r + 1, by omega, by unfold ri; rw [if_neg (by omega), if_neg (by omega), if_pos (by omega)]; omega, by omega⟩
      · exact ⟨r, h, by unfold ri; rw [if_neg (by omega), if_neg (by omega), if_neg (by omega)], by omega⟩

theorem step_length (s : Mat × Nat) (c : Nat) (hd : s.2 ≤ s.1.length) : (step c s).1.length = s.1.length ∧ (step c s).2 ≤ (step c s).1.length ∧ s.2 ≤ (step c s).2 ∧ (step c s).2 ≤ s.2 + 1 := by
  rcases step_cases s c hd with ⟨a, f, e⟩ | ⟨_, e⟩
  · have h1 := f.lo
    have h2 := f.hi
    rw [e]
    refine ⟨tab_length _ _, ?_, ?_, ?_⟩ <;> simp only [tab_length] <;> omega
  · rw [e]; refine ⟨rfl, hd, Nat.le_refl _, Nat.le_succ _⟩
theorem step_rect {s : Mat × Nat} {c n : Nat} (hd : s.2 ≤ s.1.length) (h : Rect s.1 n) : Rect (step c s).1 n := by
  rcases step_cases s c hd with ⟨a, f, e⟩ | ⟨_, e⟩
  · rw [e]
    intro r hr
    obtain ⟨i, hi, rfl⟩ := row_mem hr
    rw [tab_length] at hi
    simp only [tab_row, if_pos hi]
    have hp : (scale (inv (at_ s.1 a c)) (s.1.getD a [])).length = n := by rw [scale_length]; exact rect_row h f.hi
    have hq : (s.1.getD (ri s.2 a i) []).length = n := rect_row h (ri_lt f.lo f.hi hi)
    split
    · exact hp
    · rw [plus_length (by omega)]; exact hq
  · rw [e]; exact h
theorem step_sol {s : Mat × Nat} {c n : Nat} (hd : s.2 ≤ s.1.length) (h : Rect s.1 n) (x : Nat → UInt8) : Sol (step c s).1 n x ↔ Sol s.1 n x := by
  rcases step_cases s c hd with ⟨a, f, e⟩ | ⟨_, e⟩
  · rw [e, sol_iff, sol_iff]
    simp only [tab_length]
    have hp : (scale (inv (at_ s.1 a c)) (s.1.getD a [])).length = n := by rw [scale_length]; exact rect_row h f.hi
    constructor
    · intro hs
      have h0 := hs s.2 (by have := f.lo; have := f.hi; omega)
      rw [tab_row, if_pos (by have := f.lo; have := f.hi; omega), if_pos rfl] at h0
      intro r hr
      obtain ⟨i, hi, e1, e2⟩ := ri_surj f.lo f.hi hr
      have h1 := hs i hi
      rw [tab_row, if_pos hi] at h1
      by_cases ei : i = s.2
      · rw [e2.1 ei]
        rw [dot_scale, mul_eq_zero] at h0
        exact h0.resolve_left (inv_ne f.ne)
      · rw [if_neg ei, dot_plus (by rw [hp]; exact rect_row h (ri_lt f.lo f.hi hi)), h0, mul_zero, xor_zero, e1] at h1
        exact h1
    · intro hs i hi
      have h0 : dot n (scale (inv (at_ s.1 a c)) (s.1.getD a [])) x = 0 := by rw [dot_scale, hs a f.hi, mul_zero]
      rw [tab_row, if_pos hi]
      split
      · exact h0
      · rw [dot_plus (by rw [hp]; exact rect_row h (ri_lt f.lo f.hi hi)), h0, mul_zero, xor_zero]
        exact hs _ (ri_lt f.lo f.hi hi)
  · rw [e]

/-- Stepped down, as far as column c: d rows are done, row i begins at column piv i. -/
structure Ech (m : Mat) (n d c : Nat) (piv : Nat → Nat) : Prop where
  rect : Rect m n
  dle : d ≤ m.length
  lt : ∀ i, i < d → piv i < c
  mono : ∀ i j, i < j → j < d → piv i < piv j
  one : ∀ i, i < d → at_ m i (piv i) = 1
  clear : ∀ i, i < d → ∀ k, k ≠ i → at_ m k (piv i) = 0
  left : ∀ i, i < d → ∀ j, j < piv i → at_ m i j = 0
  low : ∀ i, d ≤ i → ∀ j, j < c → at_ m i j = 0

theorem Ech.step {s : Mat × Nat} {n c : Nat} {piv : Nat → Nat} (h : Ech s.1 n s.2 c piv) : ∃ piv', Ech (step c s).1 n (step c s).2 (c + 1) piv' := by
  rcases step_cases s c h.dle with ⟨a, f, e⟩ | ⟨h0, e⟩
  · have hr := step_rect (c := c) h.dle h.rect
    have hl := step_length s c h.dle
    rw [e] at hr hl ⊢
    simp only [tab_length] at hr hl
    have hp : (scale (inv (at_ s.1 a c)) (s.1.getD a [])).length = n := by rw [scale_length]; exact rect_row h.rect f.hi
    have key : ∀ i j, i < s.1.length → at_ (tab s.1.length fun i => if i = s.2 then scale (inv (at_ s.1 a c)) (s.1.getD a []) else plus (at_ s.1 (ri s.2 a i) c) (s.1.getD (ri s.2 a i) []) (scale (inv (at_ s.1 a c)) (s.1.getD a []))) i j
        = if i = s.2 then mul (at_ s.1 a j) (inv (at_ s.1 a c)) else at_ s.1 (ri s.2 a i) j ^^^ mul (mul (at_ s.1 a j) (inv (at_ s.1 a c))) (at_ s.1 (ri s.2 a i) c) := by
      intro i j hi
      show (List.getD (tab _ _) i []).getD j 0 = _
      rw [tab_row, if_pos hi]
      split
      · exact scale_at _ _ _
      · rw [plus_at (by rw [hp]; exact rect_row h.rect (ri_lt f.lo f.hi hi)), scale_at]; rfl
    have hlo := f.lo
    have hhi := f.hi
    have pz : ∀ j, j < c → at_ s.1 a j = 0 := fun j hj => h.low a hlo j hj
    have pv : ∀ i, i < s.2 → at_ s.1 a (piv i) = 0 := fun i hi => h.clear i hi a (by omega)
    have p1 : mul (at_ s.1 a c) (inv (at_ s.1 a c)) = 1 := mul_inv f.ne
    have big : ∀ i j, s.1.length ≤ i → at_ (tab s.1.length fun i => if i = s.2 then scale (inv (at_ s.1 a c)) (s.1.getD a []) else plus (at_ s.1 (ri s.2 a i) c) (s.1.getD (ri s.2 a i) []) (scale (inv (at_ s.1 a c)) (s.1.getD a []))) i j = 0 :=
      fun i j hi => at_out (by rw [tab_length]; exact hi)
    refine ⟨fun i => if i = s.2 then c else piv i, hr, by simp only [tab_length]; omega, fun i hi => ?_, fun i j hij hj => ?_, fun i hi => ?_, fun i hi k hk => ?_, fun i hi j hj => ?_, fun i hi j hj => ?_⟩
    · simp only [] at hi ⊢
      split
      · omega
      · have := h.lt i (by omega); omega
    · simp only [] at hj ⊢
      rw [if_neg (by omega)]
      split
      · have := h.lt i (by omega); omega
      · exact h.mono i j hij (by omega)
    · simp only [] at hi ⊢
      rw [key i _ (by omega)]
      by_cases ei : i = s.2
      · rw [if_pos ei, if_pos ei]; exact p1
      · rw [if_neg ei, if_neg ei, pv i (by omega), zero_mul, zero_mul, xor_zero]
        have : ri s.2 a i = i := by unfold ri; rw [if_pos (by omega)]
        rw [this]; exact h.one i (by omega)
    · simp only [] at hi ⊢
      by_cases hkl : k < s.1.length
      · rw [key k _ hkl]
        by_cases ei : i = s.2
        · rw [if_pos ei, if_neg (by omega), p1, one_mul, xor_self]
        · rw [if_neg ei, pv i (by omega), zero_mul, zero_mul, xor_zero]
          split
          · rfl
          · refine h.clear i (by omega) _ ?_
            unfold ri; split
            · exact hk
            · split <;> (try split) <;> omega
      · exact big k _ (by omega)
    · simp only [] at hi hj ⊢
      rw [key i _ (by omega)]
      by_cases ei : i = s.2
      · rw [if_pos ei] at hj
        rw [if_pos ei, pz j hj, zero_mul]
      · rw [if_neg ei] at hj
        have hc := h.lt i (by omega)
        rw [if_neg ei, pz j (by omega), zero_mul, zero_mul, xor_zero]
        have : ri s.2 a i = i := by unfold ri; rw [if_pos (by omega)]
        rw [this]; exact h.left i (by omega) j hj
    · simp only [] at hi ⊢
      by_cases hkl : i < s.1.length
      · rw [key i _ hkl, if_neg (by omega)]
        have hge : s.2 ≤ ri s.2 a i := by unfold ri; rw [if_neg (by omega), if_neg (by omega)]; split <;> omega
        by_cases ej : j = c
        · subst ej; rw [p1, one_mul, xor_self]
        · rw [pz j (by omega), zero_mul, zero_mul, xor_zero]; exact h.low _ hge j (by omega)
      · exact big i _ (by omega)
  · rw [e]
    refine ⟨piv, h.rect, h.dle, fun i hi => by have := h.lt i hi; omega, h.mono, h.one, h.clear, h.left, fun i hi j hj => ?_⟩
    by_cases ej : j = c
    · subst ej; exact h0 i hi
    · exact h.low i hi j (by omega)

theorem dn_length (m : Mat) : ∀ c, (dn m c).1.length = m.length ∧ (dn m c).2 ≤ m.length
  | 0 => ⟨rfl, Nat.zero_le _⟩
  | c + 1 => by
    obtain ⟨h1, h2⟩ := dn_length m c
    obtain ⟨h3, h4, _⟩ := step_length (dn m c) c (by omega)
    simp only [dn]; omega
theorem dn_ech {m : Mat} {n : Nat} (h : Rect m n) : ∀ c, ∃ piv, Ech (dn m c).1 n (dn m c).2 c piv
  | 0 => ⟨fun _ => 0, h, Nat.zero_le _, fun i hi => absurd hi (by simp [dn]), fun i j _ hj => absurd hj (by simp [dn]), fun i hi => absurd hi (by simp [dn]), fun i hi => absurd hi (by simp [dn]), fun i hi => absurd hi (by simp [dn]), fun i _ j hj => absurd hj (by omega)⟩
  | c + 1 => by
    obtain ⟨piv, hp⟩ := dn_ech h c
    exact Ech.step hp
theorem dn_sol {m : Mat} {n : Nat} (h : Rect m n) (x : Nat → UInt8) : ∀ c, Sol (dn m c).1 n x ↔ Sol m n x
  | 0 => Iff.rfl
  | c + 1 => by
    obtain ⟨piv, hp⟩ := dn_ech h c
    exact (step_sol hp.dle hp.rect x).trans (dn_sol h x c)
end LA
end Go.Proofs.YtllfhaocdknejaaDoor
/- Plain linear algebra: stepped down once more it is the same; rank; a matrix turned about. No program in sight. -/
namespace Go.Proofs.YtllfhaocdknejaaDoor
namespace LA

theorem scale_one (r : List UInt8) : scale 1 r = r := by
  unfold scale
  have : (fun x : UInt8 => mul x 1) = id := funext fun x => mul_one x
  rw [this, List.map_id]
theorem plus_zero {r s : List UInt8} (h : r.length = s.length) : plus 0 r s = r := by
  refine List.ext_getElem? fun i => ?_
  unfold plus
  rw [List.getElem?_zipWith]
  by_cases hj : i < r.length
  · rw [List.getElem?_eq_getElem hj, List.getElem?_eq_getElem (by omega)]; simp [mul_zero]
  · rw [List.getElem?_eq_none (by omega)]
theorem tab_self (m : Mat) (f : Nat → List UInt8) (h : ∀ i, i < m.length → f i = m.getD i []) : tab m.length f = m := by
  refine List.ext_getElem (tab_length _ _) fun i h1 h2 => ?_
  have e : (tab m.length f).getD i [] = m.getD i [] := by rw [tab_row, if_pos h2, h i h2]
  rw [List.getD_eq_getElem?_getD, List.getD_eq_getElem?_getD, List.getElem?_eq_getElem h1, List.getElem?_eq_getElem h2] at e
  exact e

/-- A step at a matrix that is stepped down turns nothing. -/
theorem fix_step {m : Mat} {n d c e : Nat} {piv : Nat → Nat} (h : Ech m n d n piv) (hc : c < n) (he : e ≤ d) (h1 : ∀ i, i < e → piv i < c) (h2 : ∀ i, e ≤ i → i < d → c ≤ piv i) :
    ∃ e', step c (m, e) = (m, e') ∧ e' ≤ d ∧ (∀ i, i < e' → piv i < c + 1) ∧ ∀ i, e' ≤ i → i < d → c + 1 ≤ piv i := by
  have hd := h.dle
  rcases step_cases (m, e) c (by simp only []; omega) with ⟨a, f, es⟩ | ⟨h0, es⟩
  · have hlo : e ≤ a := f.lo
    have hhi : a < m.length := f.hi
    have hne : at_ m a c ≠ 0 := f.ne
    have hfi : ∀ i, e ≤ i → i < a → at_ m i c = 0 := f.first
    have had : a < d := by
      rcases Nat.lt_or_ge a d with h | h'
      · exact h
      · exact absurd (h.low a h' c hc) hne
    have hpa : piv a = c := by
      rcases Nat.lt_or_ge c (piv a) with h3 | h3
      · exact absurd (h.left a had c h3) hne
      · have := h2 a hlo had; omega
    have hae : a = e := by
      rcases Nat.lt_or_ge e a with h3 | h3
      · have m1 := h.mono e a h3 had
        have m2 := h2 e (Nat.le_refl _) (by omega)
        omega
      · omega
    subst hae
    refine ⟨a + 1, ?_, by omega, fun i hi => ?_, fun i hi hid => ?_⟩
    · rw [es]
      simp only []
      have i1 : at_ m a c = 1 := by rw [← hpa]; exact h.one a had
      rw [i1, inv_one, scale_one]
      congr 1
      refine tab_self m _ fun i hi => ?_
      by_cases ei : i = a
      · rw [if_pos ei, ei]
      · rw [if_neg ei]
        have er : ri a a i = i := by unfold ri; split <;> (try split) <;> (try split) <;> omega
        have ez : at_ m i c = 0 := by rw [← hpa]; exact h.clear a had i ei
        rw [er, ez, plus_zero (by rw [rect_row h.rect hi, rect_row h.rect hhi])]
    · by_cases ei : i = a
      · subst ei; omega
      · have := h1 i (by omega); omega
    · have := h.mono a i (by omega) hid; omega
  · refine ⟨e, es, he, fun i hi => by have := h1 i hi; omega, fun i hi hid => ?_⟩
    have k1 := h2 i hi hid
    by_cases ec : piv i = c
    · have := h0 i hi
      simp only [] at this
      rw [← ec, h.one i hid] at this
      exact absurd this one_ne
    · omega
theorem fix_dn {m : Mat} {n d : Nat} {piv : Nat → Nat} (h : Ech m n d n piv) : ∀ c, c ≤ n → ∃ e, dn m c = (m, e) ∧ e ≤ d ∧ (∀ i, i < e → piv i < c) ∧ ∀ i, e ≤ i → i < d → c ≤ piv i
  | 0, _ => ⟨0, rfl, Nat.zero_le _, fun i hi => by omega, fun i _ _ => Nat.zero_le _⟩
  | c + 1, hc => by
    obtain ⟨e, h0, h1, h2, h3⟩ := fix_dn h c (by omega)
    simp only [dn]; rw [h0]
    exact fix_step h (by omega) h1 h2 h3
/-- Stepped down once more it is the same. -/
theorem dn_dn {m : Mat} {n : Nat} (h : Rect m n) : dn (dn m n).1 n = dn m n := by
  obtain ⟨piv, hp⟩ := dn_ech h n
  obtain ⟨e, h0, h1, h2, h3⟩ := fix_dn hp n (Nat.le_refl _)
  rw [h0]
  have : e = (dn m n).2 := by
    rcases Nat.lt_or_ge e (dn m n).2 with h4 | h4
    · have := h3 e (Nat.le_refl _) h4
      have := hp.lt e h4
      omega
    · omega
  rw [this]

theorem Ech.ge {m : Mat} {n d c : Nat} {piv : Nat → Nat} (h : Ech m n d c piv) : ∀ i, i < d → i ≤ piv i
  | 0, _ => Nat.zero_le _
  | i + 1, hi => by
    have := Ech.ge h i (by omega)
    have := h.mono i (i + 1) (by omega) hi
    omega
theorem Ech.dn_le {m : Mat} {n d c : Nat} {piv : Nat → Nat} (h : Ech m n d c piv) : d ≤ c := by
  rcases Nat.eq_zero_or_pos d with h0 | h0
  · omega
  · have := h.ge (d - 1) (by omega)
    have := h.lt (d - 1) (by omega)
    omega
/-- As many done as columns: one after the other. -/
theorem Ech.full {m : Mat} {n : Nat} {c : Nat} {piv : Nat → Nat} (h : Ech m c n n piv) : ∀ i, i < n → piv i = i := by
  intro i hi
  have up : ∀ k, i + k < n → piv i + k ≤ piv (i + k) := by
    intro k
    induction k with
    | zero => intro _; exact Nat.le_refl _
    | succ k ih =>
      intro hk
      have := ih (by omega)
      have := h.mono (i + k) (i + (k + 1)) (by omega) hk
      omega
  have h1 := up (n - 1 - i) (by omega)
  have h2 := h.lt (i + (n - 1 - i)) (by omega)
  have h3 := h.ge i hi
  omega
/-- Fewer done than columns: a list that is not all noughts whose product with each row is 0. -/
theorem Ech.kernel {m : Mat} {n d : Nat} {piv : Nat → Nat} (h : Ech m n d n piv) (hd : d < n) : ∃ x : Nat → UInt8, Sol m n x ∧ ∃ j, j < n ∧ x j ≠ 0 := by
  have free : ∀ k, k ≤ d → (∀ i, i < k → piv i = i) ∨ ∃ c, c < n ∧ ∀ i, i < d → piv i ≠ c := by
    intro k
    induction k with
    | zero => intro _; exact .inl fun i hi => by omega
    | succ k ih =>
      intro hk
      rcases ih (by omega) with h1 | h1
      · by_cases e : piv k = k
        · refine .inl fun i hi => ?_
          by_cases ei : i = k
          · rw [ei]; exact e
          · exact h1 i (by omega)
        · refine .inr ⟨k, by omega, fun i hi => ?_⟩
          have hk1 := h.ge k (by omega)
          rcases Nat.lt_trichotomy i k with h2 | h2 | h2
          · rw [h1 i h2]; omega
          · rw [h2]; exact e
          · have := h.mono k i h2 hi; omega
      · exact .inr h1
  have hc : ∃ c, c < n ∧ ∀ i, i < d → piv i ≠ c := by
    rcases free d (Nat.le_refl _) with h1 | h1
    · exact ⟨d, hd, fun i hi => by rw [h1 i hi]; omega⟩
    · exact h1
  obtain ⟨c, hcn, hcp⟩ := hc
  refine ⟨fun j => if j = c then 1 else sum d (fun i => if piv i = j then at_ m i c else 0), ?_, c, hcn, by simp only [if_pos]; exact one_ne⟩
  rw [sol_iff]
  intro i hi
  unfold dot
  have inj : ∀ a b, a < d → b < d → piv a = piv b → a = b := by
    intro a b ha hb e
    rcases Nat.lt_trichotomy a b with h2 | h2 | h2
    · have := h.mono a b h2 hb; omega
    · exact h2
    · have := h.mono b a h2 ha; omega
  by_cases hid : i < d
  · have hpn := h.lt i hid
    rw [sum_two hpn hcn (hcp i hid)]
    · have e1 : (m.getD i []).getD (piv i) 0 = 1 := h.one i hid
      have e2 : sum d (fun k => if piv k = piv i then at_ m k c else 0) = at_ m i c := by
        rw [sum_single hid]
        · rw [if_pos rfl]
        · intro k hk hne; exact if_neg fun e => hne (inj k i hk hid e)
      simp only [if_neg (hcp i hid), if_true]
      rw [e1, one_mul, e2, mul_one]
      exact xor_self _
    · intro j hj h1 h2
      simp only [if_neg h2]
      by_cases hz : ∃ k, k < d ∧ piv k = j
      · obtain ⟨k, hk, rfl⟩ := hz
        have e : (m.getD i []).getD (piv k) 0 = 0 := h.clear k hk i (fun e => h1 (by rw [e]))
        rw [e, zero_mul]
      · rw [sum_zero (fun k hk => if_neg fun e => hz ⟨k, hk, e⟩), mul_zero]
  · refine sum_zero fun j hj => ?_
    have e : (m.getD i []).getD j 0 = 0 := h.low i (by omega) j hj
    rw [e, zero_mul]

theorem sum_add (n k : Nat) (f : Nat → UInt8) : sum (n + k) f = sum n f ^^^ sum k (fun j => f (n + j)) := by
  induction k with
  | zero => exact (xor_zero _).symm
  | succ k ih => rw [← Nat.add_assoc]; simp only [sum]; rw [ih, xor_assoc]
theorem dot_append {n k : Nat} {r s : List UInt8} (h : r.length = n) (z : Nat → UInt8) : dot (n + k) (r ++ s) z = dot n r z ^^^ dot k s (fun j => z (n + j)) := by
  unfold dot
  rw [sum_add]
  congr 1
  · refine sum_congr fun j hj => ?_
    simp only [List.getD_eq_getElem?_getD]
    rw [List.getElem?_append_left (by omega)]
  · refine sum_congr fun j hj => ?_
    simp only [List.getD_eq_getElem?_getD]
    rw [List.getElem?_append_right (by omega), show n + j - r.length = j from by omega]
theorem dot_congr {n : Nat} {r s : List UInt8} {x y : Nat → UInt8} (h : ∀ j, j < n → r.getD j 0 = s.getD j 0) (k : ∀ j, j < n → x j = y j) : dot n r x = dot n s y :=
  sum_congr fun j hj => by rw [h j hj, k j hj]

/-! ### The first n columns, of a wider matrix -/
theorem getD_take {α : Type} (l : List α) (n j : Nat) (d : α) (h : j < n) : (l.take n).getD j d = l.getD j d := by
  simp only [List.getD_eq_getElem?_getD, List.getElem?_take, if_pos h]
theorem row_take (m : Mat) (n i : Nat) : (m.map (List.take n)).getD i [] = (m.getD i []).take n := by
  simp only [List.getD_eq_getElem?_getD, List.getElem?_map]
  cases m[i]? with
  | none => simp
  | some r => rfl
theorem at_take (m : Mat) {n i j : Nat} (h : j < n) : at_ (m.map (List.take n)) i j = at_ m i j := by
  unfold at_; rw [row_take, getD_take _ _ _ _ h]
theorem seek_take (m : Mat) {n c : Nat} (h : c < n) : ∀ f a, seek (m.map (List.take n)) c f a = seek m c f a
  | 0, a => rfl
  | f + 1, a => by simp only [seek]; rw [at_take m h, seek_take m h f (a + 1)]
theorem tab_map (L : Nat) (f : Nat → List UInt8) (g : List UInt8 → List UInt8) : (tab L f).map g = tab L (fun i => g (f i)) := by
  unfold tab; rw [List.map_map]; rfl
theorem step_take {W : Mat} {d n c : Nat} (h : c < n) : (step c (W.map (List.take n), d)) = ((step c (W, d)).1.map (List.take n), (step c (W, d)).2) := by
  unfold step
  simp only []
  rw [List.length_map, seek_take W h]
  split
  · simp only [tab_map]
    refine Prod.ext ?_ rfl
    simp only []
    unfold tab
    refine List.map_congr_left fun i _ => ?_
    split
    · rw [row_take, at_take W h]; unfold scale; rw [List.map_take]
    · rw [row_take, row_take, at_take W h, at_take W h]; unfold plus scale; rw [List.take_zipWith, List.map_take]
  · rfl
theorem dn_take {W : Mat} {n : Nat} : ∀ c, c ≤ n → dn (W.map (List.take n)) c = ((dn W c).1.map (List.take n), (dn W c).2)
  | 0, _ => rfl
  | c + 1, hc => by
    simp only [dn]
    rw [dn_take c (by omega)]
    exact step_take (by omega)
theorem step_done {s : Mat × Nat} {c : Nat} (h : s.2 = s.1.length) : step c s = s := by
  rcases step_cases s c (by omega) with ⟨a, f, _⟩ | ⟨_, e⟩
  · have := f.lo; have := f.hi; omega
  · exact e
theorem dn_done {m : Mat} {n : Nat} (h : (dn m n).2 = m.length) : ∀ k, dn m (n + k) = dn m n
  | 0 => rfl
  | k + 1 => by
    rw [← Nat.add_assoc]; simp only [dn]; rw [dn_done h k]
    exact step_done (by rw [h, (dn_length m n).1])

/-! ### Square matrices -/
theorem full_iff {m : Mat} {n : Nat} (h : Rect m n) (hl : m.length = n) : (dn m n).2 = n ↔ ∀ x, Sol m n x → ∀ j, j < n → x j = 0 := by
  obtain ⟨piv, hp⟩ := dn_ech h n
  constructor
  · intro e x hx j hj
    rw [e] at hp
    have hpi := hp.full
    rw [← dn_sol h x n, sol_iff] at hx
    have h1 := hx j (by rw [(dn_length m n).1]; omega)
    unfold dot at h1
    rw [sum_single hj] at h1
    · have e1 : ((dn m n).1.getD j []).getD j 0 = 1 := by have := hp.one j hj; rw [hpi j hj] at this; exact this
      rwa [e1, one_mul] at h1
    · intro i hi hne
      have e1 : ((dn m n).1.getD j []).getD i 0 = 0 := by have := hp.clear i hi j (fun x => hne x.symm); rw [hpi i hi] at this; exact this
      rw [e1, zero_mul]
  · intro hk
    rcases Nat.lt_or_ge (dn m n).2 n with h1 | h1
    · obtain ⟨x, hx, j, hj, hne⟩ := hp.kernel h1
      exact absurd (hk x ((dn_sol h x n).1 hx) j hj) hne
    · have := (dn_length m n).2; omega
/-- m, and beside each row another one. -/
def beside (m : Mat) (s : Nat → List UInt8) : Mat := tab m.length fun i => m.getD i [] ++ s i
theorem beside_take {m : Mat} {n : Nat} (h : Rect m n) (s : Nat → List UInt8) : (beside m s).map (List.take n) = m := by
  unfold beside; rw [tab_map]
  refine tab_self m _ fun i hi => ?_
  rw [List.take_append_of_le_length (by rw [rect_row h hi]; omega), List.take_of_length_le (by rw [rect_row h hi]; omega)]
theorem beside_rect {m : Mat} {n k : Nat} (h : Rect m n) (s : Nat → List UInt8) (hs : ∀ i, i < m.length → (s i).length = k) : Rect (beside m s) (n + k) := by
  intro r hr
  obtain ⟨i, hi, rfl⟩ := row_mem hr
  unfold beside at hi ⊢
  rw [tab_length] at hi
  rw [tab_row, if_pos hi, List.length_append, rect_row h hi, hs i hi]
theorem beside_sol {m : Mat} {n k : Nat} (h : Rect m n) (s : Nat → List UInt8) (z : Nat → UInt8) :
    Sol (beside m s) (n + k) z ↔ ∀ i, i < m.length → dot n (m.getD i []) z ^^^ dot k (s i) (fun j => z (n + j)) = 0 := by
  rw [sol_iff]
  unfold beside
  rw [tab_length]
  constructor
  · intro hs i hi; have := hs i hi; rwa [tab_row, if_pos hi, dot_append (rect_row h hi)] at this
  · intro hs i hi; rw [tab_row, if_pos hi, dot_append (rect_row h hi)]; exact hs i hi
/-- A square matrix of full rank, and k columns beside it: stepped down there is 1 where row and column are the same, then columns c; and the products tell the same lists. -/
theorem beside_full {m : Mat} {n k : Nat} (h : Rect m n) (hl : m.length = n) (hf : (dn m n).2 = n) (s : Nat → List UInt8) (hs : ∀ i, i < m.length → (s i).length = k) :
    dn (beside m s) (n + k) = dn (beside m s) n ∧ (dn (beside m s) n).1.length = n ∧ (dn (beside m s) n).2 = n ∧ Rect (dn (beside m s) n).1 (n + k) ∧
    (∀ i, i < n → ∀ j, j < n → at_ (dn (beside m s) n).1 i j = if i = j then 1 else 0) ∧
    ∀ x y : Nat → UInt8, (∀ i, i < n → dot n (m.getD i []) x = dot k (s i) y) ↔ ∀ i, i < n → x i = sum k (fun j => mul (at_ (dn (beside m s) n).1 i (n + j)) (y j)) := by
  have hb := beside_rect h s hs
  have hL : (beside m s).length = n := by unfold beside; rw [tab_length]; exact hl
  have e2 : (dn (beside m s) n).2 = n := by
    have := dn_take (W := beside m s) (n := n) n (Nat.le_refl _)
    rw [beside_take h] at this
    rw [this] at hf; exact hf
  obtain ⟨piv, hp⟩ := dn_ech hb n
  rw [e2] at hp
  have hpi := hp.full
  have unit : ∀ i, i < n → ∀ j, j < n → at_ (dn (beside m s) n).1 i j = if i = j then 1 else 0 := by
    intro i hi j hj
    split
    · rename_i e; subst e; have := hp.one i hi; rwa [hpi i hi] at this
    · rename_i e; have := hp.clear j hj i e; rwa [hpi j hj] at this
  refine ⟨dn_done (by rw [e2, hL]) k, by rw [(dn_length _ n).1, hL], e2, hp.rect, unit, fun x y => ?_⟩
  have hz := dn_sol hb (fun j => if j < n then x j else y (j - n)) n
  have left : ∀ (r : List UInt8), dot n r (fun j => if j < n then x j else y (j - n)) = dot n r x := fun r => dot_congr (fun _ _ => rfl) fun j hj => if_pos hj
  rw [beside_sol h, sol_iff, (dn_length _ n).1, hL, hl] at hz
  constructor
  · intro hx i hi
    have h1 := hz.2 (fun i hi => by
      rw [left, hx i hi]
      rw [xor_eq_zero]
      exact dot_congr (fun _ _ => rfl) fun j hj => by rw [if_neg (by omega), show n + j - n = j from by omega]) i hi
    unfold dot at h1
    rw [sum_add, xor_eq_zero, sum_single hi] at h1
    · rw [show ((dn (beside m s) n).1.getD i []).getD i 0 = 1 from by have := unit i hi i hi; rwa [if_pos rfl] at this, one_mul] at h1
      simp only [if_pos hi] at h1
      rw [h1]
      exact sum_congr fun j hj => by rw [if_neg (by omega), show n + j - n = j from by omega]; rfl
    · intro j hj hne
      rw [show ((dn (beside m s) n).1.getD i []).getD j 0 = 0 from by have := unit i hi j hj; rwa [if_neg (fun e => hne e.symm)] at this, zero_mul]
  · intro hx
    have h1 := hz.1 (fun i hi => by
      unfold dot
      rw [sum_add, xor_eq_zero, sum_single hi]
      · rw [show ((dn (beside m s) n).1.getD i []).getD i 0 = 1 from by have := unit i hi i hi; rwa [if_pos rfl] at this, one_mul]
        simp only [if_pos hi]
        rw [hx i hi]
        exact sum_congr fun j hj => by rw [if_neg (by omega), show n + j - n = j from by omega]; rfl
      · intro j hj hne
        rw [show ((dn (beside m s) n).1.getD i []).getD j 0 = 0 from by have := unit i hi j hj; rwa [if_neg (fun e => hne e.symm)] at this, zero_mul])
    intro i hi
    have h2 := h1 i hi
    rw [left, xor_eq_zero] at h2
    rw [h2]
    exact dot_congr (fun _ _ => rfl) fun j hj => by rw [if_neg (by omega), show n + j - n = j from by omega]
end LA
end Go.Proofs.YtllfhaocdknejaaDoor
