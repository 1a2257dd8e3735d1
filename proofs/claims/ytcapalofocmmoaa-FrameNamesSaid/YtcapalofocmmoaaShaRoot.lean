/- Primes, and the bits of their roots, as plain functions. No program in sight. -/
import Derived.Test.YtcapalofocmmoaaShaMath
namespace Go.Proofs.Ytcapalofocmmoaa.SH
def primeB (n : Nat) : Bool := (List.range n).all fun d => decide (d < 2) || decide (n < d * d) || n % d != 0
def primesB (n : Nat) : List Nat := (List.range n).filter fun m => decide (2 ≤ m) && primeB m
theorem primes_312 : primesB 312 = primesL := by decide +kernel
theorem primesB_succ (n : Nat) (h : 2 ≤ n) : primesB (n + 1) = if primeB n = true then primesB n ++ [n] else primesB n := by
  unfold primesB
  rw [List.range_succ, List.filter_append]
  cases hp : primeB n <;> simp [hp, h]
theorem primesB_two : primesB 2 = [] := by decide
theorem primesB_more {n m : Nat} (h : n ≤ m) : (primesB n).length ≤ (primesB m).length := by
  induction m with
  | zero => obtain rfl : n = 0 := by omega
            exact Nat.le_refl _
  | succ m ih =>
    rcases Nat.lt_or_ge m n with h1 | h1
    · obtain rfl : n = m + 1 := by omega
      exact Nat.le_refl _
    · refine Nat.le_trans (ih h1) ?_
      unfold primesB
      rw [List.range_succ, List.filter_append, List.length_append]
      omega
theorem primesB_few {n : Nat} (h : (primesB n).length < 64) : n < 312 := by
  rcases Nat.lt_or_ge n 312 with h1 | h1
  · exact h1
  · have := primesB_more h1
    rw [primes_312] at this
    have e : primesL.length = 64 := rfl
    omega
theorem primesB_full {n : Nat} (h : (primesB n).length = 64) : primesB n = primesL := by
  have key : ∀ m, 312 ≤ m → ∃ l, primesB m = primesL ++ l := by
    intro m hm
    induction m with
    | zero => omega
    | succ m ih =>
      rcases Nat.lt_or_ge m 312 with h1 | h1
      · obtain rfl : m = 311 := by omega
        exact ⟨[], by rw [primes_312]; rfl⟩
      · obtain ⟨l, hl⟩ := ih h1
        rw [primesB_succ m (by omega)]
        split
        · exact ⟨l ++ [m], by rw [hl, List.append_assoc]⟩
        · exact ⟨l, hl⟩
  rcases Nat.lt_or_ge n 312 with h1 | h1
  · have h2 : (primesB n).length ≤ (primesB 311).length := primesB_more (by omega)
    have e : (primesB 311).length = 63 := by decide +kernel
    omega
  · obtain ⟨l, hl⟩ := key n h1
    have e : primesL.length = 64 := rfl
    rw [hl, List.length_append, e] at h
    have : l = [] := List.length_eq_zero_iff.1 (by omega)
    rw [hl, this, List.append_nil]
theorem primesB_pre {n m : Nat} (h : n ≤ m) : ∃ l, primesB m = primesB n ++ l := by
  induction m with
  | zero => obtain rfl : n = 0 := by omega
            exact ⟨[], by simp⟩
  | succ m ih =>
    rcases Nat.lt_or_ge m n with h1 | h1
    · obtain rfl : n = m + 1 := by omega
      exact ⟨[], by simp⟩
    · obtain ⟨l, hl⟩ := ih h1
      refine ⟨l ++ (List.filter (fun m => decide (2 ≤ m) && primeB m) [m]), ?_⟩
      rw [← List.append_assoc, ← hl]
      unfold primesB
      rw [List.range_succ, List.filter_append]
theorem primesB_take {n : Nat} (h : n ≤ 312) : primesB n = primesL.take (primesB n).length := by
  obtain ⟨l, hl⟩ := primesB_pre h
  rw [primes_312] at hl
  rw [hl, List.take_left]
/-- The next one. -/
theorem primesB_next {n : Nat} (h2 : 2 ≤ n) (h : n < 312) (hp : primeB n = true) : (primesB n).length < 64 ∧ primesL.getD (primesB n).length 0 = n ∧ (primesB (n + 1)).length = (primesB n).length + 1 := by
  have e : primesB (n + 1) = primesB n ++ [n] := by rw [primesB_succ n h2, if_pos hp]
  have hl : (primesB (n + 1)).length = (primesB n).length + 1 := by rw [e, List.length_append]; rfl
  obtain ⟨l, hl2⟩ := primesB_pre (show n + 1 ≤ 312 by omega)
  rw [primes_312, e] at hl2
  have h64 : primesL.length = 64 := rfl
  refine ⟨?_, ?_, hl⟩
  · rw [hl2] at h64
    simp at h64; omega
  · rw [hl2, List.getD_eq_getElem?_getD, List.append_assoc, List.getElem?_append_right (Nat.le_refl _), Nat.sub_self]; rfl
theorem primesB_same {n : Nat} (h2 : 2 ≤ n) (hp : primeB n = false) : primesB (n + 1) = primesB n := by
  rw [primesB_succ n h2, hp]; rfl
theorem primeB_no {n d : Nat} (h2 : 2 ≤ d) (hd : d * d ≤ n) (hm : n % d = 0) : primeB n = false := by
  cases h : primeB n with
  | false => rfl
  | true =>
    unfold primeB at h
    rw [List.all_eq_true] at h
    have hlt : d < n := by
      have : d * 2 ≤ d * d := Nat.mul_le_mul_left d h2
      omega
    have := h d (List.mem_range.2 hlt)
    simp only [Bool.or_eq_true, decide_eq_true_eq, bne_iff_ne] at this
    omega
theorem primeB_yes {n d : Nat} (hd : n < d * d) (h : ∀ j, 2 ≤ j → j < d → n % j ≠ 0) : primeB n = true := by
  unfold primeB
  rw [List.all_eq_true]
  intro j _
  simp only [Bool.or_eq_true, decide_eq_true_eq, bne_iff_ne]
  by_cases h1 : j < 2
  · exact .inl (.inl h1)
  · by_cases h2 : n < j * j
    · exact .inl (.inr h2)
    · refine .inr (h j (by omega) ?_)
      rcases Nat.lt_or_ge j d with h3 | h3
      · exact h3
      · have : d * d ≤ j * j := Nat.mul_le_mul h3 h3
        omega

/-- Is the power of x above n shifted by 32 bits for each factor? -/
def ovr (n k x : Nat) : Bool := decide (n * 2 ^ (32 * k) < x ^ k)
/-- The greatest number that is not, bit by bit. -/
def grd (P : Nat → Bool) : Nat → Nat → Nat
  | 0, x => x
  | b + 1, x => grd P b (if P (x + 2 ^ b) then x else x + 2 ^ b)
def rootL (n k : Nat) : Nat := grd (ovr n k) 36 0 % 4294967296
theorem roots3 : primesL.map (fun p => rootL p 3) = KL := by decide +kernel
theorem roots2 : (primesL.take 8).map (fun p => rootL p 2) = HL := by decide +kernel
theorem or_bit {x b : Nat} (h : x % 2 ^ (b + 1) = 0) : x ||| 2 ^ b = x + 2 ^ b := by
  obtain ⟨q, rfl⟩ := Nat.dvd_of_mod_eq_zero h
  rw [← Nat.two_pow_add_eq_or_of_lt (i := b + 1) (b := 2 ^ b) (by rw [Nat.pow_succ]; have := Nat.two_pow_pos b; omega) q]
end Go.Proofs.Ytcapalofocmmoaa.SH
