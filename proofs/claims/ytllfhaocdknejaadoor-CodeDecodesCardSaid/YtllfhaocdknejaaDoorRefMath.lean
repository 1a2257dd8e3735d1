/- Plain facts on a product bit by bit, and that it is the field's product. No program in sight. -/
import Derived.Test.YtllfhaocdknejaaDoorFieldMath
namespace Go.Proofs.YtllfhaocdknejaaDoor
namespace FM

/-- The product of polynomials, of the lowest k bits of b. -/
def pk (a b : Nat) : Nat → Nat
  | 0 => 0
  | k + 1 => if b.testBit k then pk a b k ^^^ (a <<< k) else pk a b k
/-- One step of the reduction: at bit i. -/
def st (i p : Nat) : Nat := if p.testBit i then p ^^^ (285 <<< (i - 8)) else p
/-- The reduction's first j steps, from bit 14 down. -/
def rd (p : Nat) : Nat → Nat
  | 0 => p
  | j + 1 => st (14 - j) (rd p j)

theorem xor_left_comm (a b c : Nat) : a ^^^ (b ^^^ c) = b ^^^ (a ^^^ c) := by rw [← Nat.xor_assoc, Nat.xor_comm a b, Nat.xor_assoc]
theorem st_xor (i p q : Nat) : st i (p ^^^ q) = st i p ^^^ st i q := by
  unfold st
  rw [Nat.testBit_xor]
  generalize 285 <<< (i - 8) = c
  cases p.testBit i <;> cases q.testBit i
  · rfl
  · exact Nat.xor_assoc p q c
  · show p ^^^ q ^^^ c = p ^^^ c ^^^ q
    rw [Nat.xor_assoc, Nat.xor_assoc, Nat.xor_comm q c]
  · show p ^^^ q = p ^^^ c ^^^ (q ^^^ c)
    rw [Nat.xor_assoc, xor_left_comm c q c, Nat.xor_self, Nat.xor_zero]
theorem rd_xor (p q : Nat) : ∀ j, rd (p ^^^ q) j = rd p j ^^^ rd q j
  | 0 => rfl
  | j + 1 => by simp only [rd]; rw [rd_xor p q j, st_xor]
theorem rd_zero : ∀ j, rd 0 j = 0
  | 0 => rfl
  | j + 1 => by simp only [rd]; rw [rd_zero j]; unfold st; rw [Nat.zero_testBit]; rfl
theorem rd_closed : (List.range 256).all (fun a => (List.range 8).all (fun k => rd (a <<< k) 7 == mul a (2 ^ k))) = true := by decide +kernel
theorem rd_shift {a k : Nat} (ha : a < 256) (hk : k < 8) : rd (a <<< k) 7 = mul a (2 ^ k) := by
  have := List.all_eq_true.1 rd_closed a (List.mem_range.2 ha)
  simpa using List.all_eq_true.1 this k (List.mem_range.2 hk)
theorem low_succ (b k : Nat) : b % 2 ^ (k + 1) = if b.testBit k then (b % 2 ^ k) ^^^ 2 ^ k else b % 2 ^ k := by
  apply Nat.eq_of_testBit_eq
  intro i
  cases hb : b.testBit k with
  | false =>
    rw [if_neg (by simp), Nat.testBit_mod_two_pow, Nat.testBit_mod_two_pow]
    by_cases h : i = k
    · subst h; simp [hb]
    · have : (i < k + 1) = (i < k) := by simp; omega
      simp only [this]
  | true =>
    rw [if_pos rfl, Nat.testBit_xor, Nat.testBit_mod_two_pow, Nat.testBit_mod_two_pow, Nat.testBit_two_pow]
    by_cases h : i = k
    · subst h; simp [hb]
    · have e : (i < k + 1) = (i < k) := by simp; omega
      have f : ¬ k = i := fun x => h x.symm
      simp [e, f]
theorem rd_pk {a b : Nat} (ha : a < 256) : ∀ k, k ≤ 8 → rd (pk a b k) 7 = mul a (b % 2 ^ k)
  | 0, _ => by rw [Nat.pow_zero, Nat.mod_one, mul_zero]; exact rd_zero 7
  | k + 1, hk => by
    have ih := rd_pk ha (b := b) k (by omega)
    simp only [pk]
    rw [low_succ]
    split
    · have h2 : 2 ^ k ≤ 2 ^ 7 := Nat.pow_le_pow_right (by omega) (by omega)
      have h3 : b % 2 ^ k < 2 ^ k := Nat.mod_lt _ (Nat.two_pow_pos k)
      rw [rd_xor, ih, rd_shift ha (by omega), mul_xor ha (by omega) (by omega)]
    · exact ih
theorem rd_mul {a b : Nat} (ha : a < 256) (hb : b < 256) : rd (pk a b 8) 7 = mul a b := by
  rw [rd_pk ha 8 (by omega), Nat.mod_eq_of_lt (by omega)]
theorem pk_lt {a b : Nat} (ha : a < 256) : ∀ k, k ≤ 8 → pk a b k < 32768
  | 0, _ => by simp [pk]
  | k + 1, hk => by
    have ih := pk_lt ha (b := b) k (by omega)
    simp only [pk]
    split
    · refine Nat.xor_lt_two_pow (n := 15) ih ?_
      rw [Nat.shiftLeft_eq]
      have h2 : 2 ^ k ≤ 2 ^ 7 := Nat.pow_le_pow_right (by omega) (by omega)
      calc a * 2 ^ k ≤ 255 * 2 ^ 7 := Nat.mul_le_mul (by omega) h2
        _ < 2 ^ 15 := by decide
    · exact ih
theorem rd_lt {p : Nat} (hp : p < 32768) : ∀ j, j ≤ 7 → rd p j < 32768
  | 0, _ => hp
  | j + 1, hj => by
    have ih := rd_lt hp j (by omega)
    simp only [rd]
    unfold st
    split
    · refine Nat.xor_lt_two_pow (n := 15) ih ?_
      rw [Nat.shiftLeft_eq]
      have h2 : 2 ^ (14 - j - 8) ≤ 2 ^ 6 := Nat.pow_le_pow_right (by omega) (by omega)
      calc 285 * 2 ^ (14 - j - 8) ≤ 285 * 2 ^ 6 := Nat.mul_le_mul (Nat.le_refl _) h2
        _ < 2 ^ 15 := by decide
    · exact ih
end FM
end Go.Proofs.YtllfhaocdknejaaDoor
