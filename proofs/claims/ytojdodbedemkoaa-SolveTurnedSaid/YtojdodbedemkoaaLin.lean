/- Plain linear algebra over the field of 256 numbers: sums, products of rows, stepping down. No program in sight. -/
import Derived.Test.YtojdodbedemkoaaFieldMath
namespace Go.Proofs.Ytojdodbedemkoaa
namespace LA

/-- The field's product on bytes. -/
def mul (a b : UInt8) : UInt8 := UInt8.ofNat (FM.mul a.toNat b.toNat)
def inv (a : UInt8) : UInt8 := UInt8.ofNat (FM.inv a.toNat)

theorem lt (a : UInt8) : a.toNat < 256 := a.toNat_lt
theorem mul_toNat (a b : UInt8) : (mul a b).toNat = FM.mul a.toNat b.toNat := by
  unfold mul; rw [UInt8.toNat_ofNat']; exact Nat.mod_eq_of_lt (FM.mul_lt _ _)
theorem inv_toNat (a : UInt8) : (inv a).toNat = FM.inv a.toNat := by
  unfold inv; rw [UInt8.toNat_ofNat']; exact Nat.mod_eq_of_lt (FM.inv_lt _)
theorem ext {a b : UInt8} (h : a.toNat = b.toNat) : a = b := UInt8.toNat_inj.1 h
theorem xor_toNat (a b : UInt8) : (a ^^^ b).toNat = a.toNat ^^^ b.toNat := UInt8.toNat_xor a b
theorem zero_toNat : (0 : UInt8).toNat = 0 := rfl
theorem one_toNat : (1 : UInt8).toNat = 1 := rfl

theorem mul_comm (a b : UInt8) : mul a b = mul b a := ext (by rw [mul_toNat, mul_toNat, FM.mul_comm])
theorem mul_assoc (a b c : UInt8) : mul (mul a b) c = mul a (mul b c) := ext (by simp only [mul_toNat]; exact FM.mul_assoc (lt a) (lt b) (lt c))
theorem zero_mul (a : UInt8) : mul 0 a = 0 := ext (by rw [mul_toNat, zero_toNat, FM.zero_mul])
theorem mul_zero (a : UInt8) : mul a 0 = 0 := by rw [mul_comm, zero_mul]
theorem one_mul (a : UInt8) : mul 1 a = a := ext (by rw [mul_toNat, one_toNat, FM.one_mul (lt a)])
theorem mul_one (a : UInt8) : mul a 1 = a := by rw [mul_comm, one_mul]
theorem mul_xor (a b c : UInt8) : mul a (b ^^^ c) = mul a b ^^^ mul a c := ext (by simp only [mul_toNat, xor_toNat]; exact FM.mul_xor (lt a) (lt b) (lt c))
theorem xor_mul (a b c : UInt8) : mul (a ^^^ b) c = mul a c ^^^ mul b c := by rw [mul_comm, mul_xor, mul_comm c a, mul_comm c b]
theorem mul_inv {a : UInt8} (h : a ≠ 0) : mul a (inv a) = 1 := ext (by
  rw [mul_toNat, inv_toNat, one_toNat]
  refine FM.mul_inv ?_ (lt a)
  rcases Nat.eq_zero_or_pos a.toNat with h0 | h0
  · exact absurd (ext h0) h
  · exact h0)
theorem mul_eq_zero {a b : UInt8} : mul a b = 0 ↔ a = 0 ∨ b = 0 := by
  constructor
  · intro h
    have : (mul a b).toNat = 0 := by rw [h]; rfl
    rw [mul_toNat, FM.mul_eq_zero] at this
    rcases this with h | h
    · exact .inl (ext h)
    · exact .inr (ext h)
  · rintro (rfl | rfl)
    · exact zero_mul b
    · exact mul_zero a
theorem inv_ne {a : UInt8} (h : a ≠ 0) : inv a ≠ 0 := fun e => by
  have := mul_inv h
  rw [e, mul_zero] at this
  exact absurd this (by decide)
theorem one_ne : (1 : UInt8) ≠ 0 := by decide
theorem inv_one : inv 1 = 1 := by
  have := mul_inv one_ne
  rwa [one_mul] at this
theorem xor_self (a : UInt8) : a ^^^ a = 0 := UInt8.xor_self
theorem xor_zero (a : UInt8) : a ^^^ 0 = a := UInt8.xor_zero
theorem zero_xor (a : UInt8) : 0 ^^^ a = a := UInt8.zero_xor
theorem xor_comm (a b : UInt8) : a ^^^ b = b ^^^ a := UInt8.xor_comm a b
theorem xor_assoc (a b c : UInt8) : a ^^^ b ^^^ c = a ^^^ (b ^^^ c) := UInt8.xor_assoc a b c
theorem xor_left_comm (a b c : UInt8) : a ^^^ (b ^^^ c) = b ^^^ (a ^^^ c) := by rw [← xor_assoc, xor_comm a b, xor_assoc]
theorem xor_eq_zero {a b : UInt8} : a ^^^ b = 0 ↔ a = b := by
  constructor
  · intro h
    have : a ^^^ b ^^^ b = 0 ^^^ b := by rw [h]
    rwa [xor_assoc, xor_self, xor_zero, zero_xor] at this
  · rintro rfl; exact xor_self a

/-- f 0 + .. + f (n - 1). -/
def sum : Nat → (Nat → UInt8) → UInt8
  | 0, _ => 0
  | n + 1, f => sum n f ^^^ f n

theorem sum_congr {n : Nat} {f g : Nat → UInt8} (h : ∀ i, i < n → f i = g i) : sum n f = sum n g := by
  induction n with
  | zero => rfl
  | succ n ih => simp only [sum]; rw [ih (fun i hi => h i (by omega)), h n (by omega)]
theorem sum_zero {n : Nat} {f : Nat → UInt8} (h : ∀ i, i < n → f i = 0) : sum n f = 0 := by
  induction n with
  | zero => rfl
  | succ n ih => simp only [sum]; rw [ih (fun i hi => h i (by omega)), h n (by omega), xor_self]
theorem sum_xor (n : Nat) (f g : Nat → UInt8) : sum n (fun i => f i ^^^ g i) = sum n f ^^^ sum n g := by
  induction n with
  | zero => exact (xor_self 0).symm
  | succ n ih => simp only [sum]; rw [ih, xor_assoc, xor_assoc]; congr 1; rw [xor_left_comm]
theorem mul_sum (a : UInt8) (n : Nat) (f : Nat → UInt8) : mul a (sum n f) = sum n (fun i => mul a (f i)) := by
  induction n with
  | zero => exact mul_zero a
  | succ n ih => simp only [sum]; rw [mul_xor, ih]
theorem sum_mul (a : UInt8) (n : Nat) (f : Nat → UInt8) : mul (sum n f) a = sum n (fun i => mul (f i) a) := by
  rw [mul_comm, mul_sum]; exact sum_congr fun i _ => mul_comm _ _
theorem sum_comm (n k : Nat) (f : Nat → Nat → UInt8) : sum n (fun i => sum k (fun j => f i j)) = sum k (fun j => sum n (fun i => f i j)) := by
  induction n with
  | zero => exact (sum_zero fun _ _ => rfl).symm
  | succ n ih => simp only [sum]; rw [ih, ← sum_xor]
theorem sum_single {n p : Nat} {f : Nat → UInt8} (hp : p < n) (h : ∀ i, i < n → i ≠ p → f i = 0) : sum n f = f p := by
  induction n with
  | zero => omega
  | succ n ih =>
    simp only [sum]
    by_cases e : p = n
    · subst e; rw [sum_zero (fun i hi => h i (by omega) (by omega)), zero_xor]
    · rw [ih (by omega) (fun i hi hn => h i (by omega) hn), h n (by omega) (by omega), xor_zero]
theorem sum_two {n p q : Nat} {f : Nat → UInt8} (hp : p < n) (hq : q < n) (hpq : p ≠ q) (h : ∀ i, i < n → i ≠ p → i ≠ q → f i = 0) : sum n f = f p ^^^ f q := by
  have e : sum n f = sum n (fun i => (if i = p then f p else 0) ^^^ (if i = q then f q else 0)) := by
    refine sum_congr fun i hi => ?_
    by_cases h1 : i = p
    · subst h1; rw [if_pos rfl, if_neg hpq, xor_zero]
    · by_cases h2 : i = q
      · subst h2; rw [if_neg h1, if_pos rfl, zero_xor]
      · rw [if_neg h1, if_neg h2, xor_self, h i hi h1 h2]
  rw [e, sum_xor, sum_single hp (fun i _ hn => if_neg hn), sum_single hq (fun i _ hn => if_neg hn), if_pos rfl, if_pos rfl]

abbrev Mat := List (List UInt8)
/-- The number at row i, column j; 0 outside. -/
def at_ (m : Mat) (i j : Nat) : UInt8 := (m.getD i []).getD j 0
/-- All rows have n numbers. -/
def Rect (m : Mat) (n : Nat) : Prop := ∀ r ∈ m, r.length = n
/-- A row times a list. -/
def dot (n : Nat) (r : List UInt8) (x : Nat → UInt8) : UInt8 := sum n (fun j => mul (r.getD j 0) (x j))
/-- Lists whose product with each row is 0. -/
def Sol (m : Mat) (n : Nat) (x : Nat → UInt8) : Prop := ∀ r ∈ m, dot n r x = 0

/-- A row times a number. -/
def scale (k : UInt8) (r : List UInt8) : List UInt8 := r.map (fun x => mul x k)
/-- A row and another one so often. -/
def plus (k : UInt8) (r s : List UInt8) : List UInt8 := List.zipWith (fun x y => x ^^^ mul y k) r s

theorem getD_map0 {α : Type} (f : α → UInt8) (d : α) (h : f d = 0) (r : List α) (j : Nat) : (r.map f).getD j 0 = f (r.getD j d) := by
  simp only [List.getD_eq_getElem?_getD, List.getElem?_map]
  cases r[j]? with
  | none => exact h.symm
  | some x => rfl
theorem scale_at (k : UInt8) (r : List UInt8) (j : Nat) : (scale k r).getD j 0 = mul (r.getD j 0) k := getD_map0 (fun x => mul x k) 0 (zero_mul k) r j
theorem scale_length (k : UInt8) (r : List UInt8) : (scale k r).length = r.length := List.length_map _
theorem plus_length {k : UInt8} {r s : List UInt8} (h : r.length = s.length) : (plus k r s).length = r.length := by
  unfold plus; rw [List.length_zipWith]; omega
theorem plus_at {k : UInt8} {r s : List UInt8} (h : r.length = s.length) (j : Nat) : (plus k r s).getD j 0 = r.getD j 0 ^^^ mul (s.getD j 0) k := by
  unfold plus
  simp only [List.getD_eq_getElem?_getD, List.getElem?_zipWith]
  by_cases hj : j < r.length
  · rw [List.getElem?_eq_getElem hj, List.getElem?_eq_getElem (by omega)]; rfl
  · rw [List.getElem?_eq_none (by omega), List.getElem?_eq_none (by omega)]; simp [zero_mul]
theorem dot_scale (n : Nat) (k : UInt8) (r : List UInt8) (x : Nat → UInt8) : dot n (scale k r) x = mul k (dot n r x) := by
  unfold dot; rw [mul_sum]; refine sum_congr fun j _ => ?_
  rw [scale_at, mul_comm _ k, mul_assoc]
theorem dot_plus {n : Nat} {k : UInt8} {r s : List UInt8} (h : r.length = s.length) (x : Nat → UInt8) : dot n (plus k r s) x = dot n r x ^^^ mul k (dot n s x) := by
  unfold dot; rw [mul_sum, ← sum_xor]; refine sum_congr fun j _ => ?_
  rw [plus_at h, xor_mul, mul_comm (s.getD j 0) k, mul_assoc]
end LA
end Go.Proofs.Ytojdodbedemkoaa
