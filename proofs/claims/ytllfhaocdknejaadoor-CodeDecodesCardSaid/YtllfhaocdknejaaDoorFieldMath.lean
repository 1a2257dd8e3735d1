/- Plain facts on the field of 256 numbers: its powers, its logarithms, its product. No program in sight. -/
import Derived.RowKit
namespace Go.Proofs.YtllfhaocdknejaaDoor
namespace FM

/-- Twice a number, less 285 if it does not fit. -/
def xt (x : Nat) : Nat := if 255 < 2 * x then (2 * x) ^^^ 285 else 2 * x
def exT : List Nat := [1, 2, 4, 8, 16, 32, 64, 128, 29, 58, 116, 232, 205, 135, 19, 38, 76, 152, 45, 90, 180, 117, 234, 201, 143, 3, 6, 12, 24, 48, 96, 192, 157, 39, 78, 156, 37, 74, 148, 53, 106, 212, 181, 119, 238, 193, 159, 35, 70, 140, 5, 10, 20, 40, 80, 160, 93, 186, 105, 210, 185, 111, 222, 161, 95, 190, 97, 194, 153, 47, 94, 188, 101, 202, 137, 15, 30, 60, 120, 240, 253, 231, 211, 187, 107, 214, 177, 127, 254, 225, 223, 163, 91, 182, 113, 226, 217, 175, 67, 134, 17, 34, 68, 136, 13, 26, 52, 104, 208, 189, 103, 206, 129, 31, 62, 124, 248, 237, 199, 147, 59, 118, 236, 197, 151, 51, 102, 204, 133, 23, 46, 92, 184, 109, 218, 169, 79, 158, 33, 66, 132, 21, 42, 84, 168, 77, 154, 41, 82, 164, 85, 170, 73, 146, 57, 114, 228, 213, 183, 115, 230, 209, 191, 99, 198, 145, 63, 126, 252, 229, 215, 179, 123, 246, 241, 255, 227, 219, 171, 75, 150, 49, 98, 196, 149, 55, 110, 220, 165, 87, 174, 65, 130, 25, 50, 100, 200, 141, 7, 14, 28, 56, 112, 224, 221, 167, 83, 166, 81, 162, 89, 178, 121, 242, 249, 239, 195, 155, 43, 86, 172, 69, 138, 9, 18, 36, 72, 144, 61, 122, 244, 245, 247, 243, 251, 235, 203, 139, 11, 22, 44, 88, 176, 125, 250, 233, 207, 131, 27, 54, 108, 216, 173, 71, 142]
def lgT : List Nat := [0, 0, 1, 25, 2, 50, 26, 198, 3, 223, 51, 238, 27, 104, 199, 75, 4, 100, 224, 14, 52, 141, 239, 129, 28, 193, 105, 248, 200, 8, 76, 113, 5, 138, 101, 47, 225, 36, 15, 33, 53, 147, 142, 218, 240, 18, 130, 69, 29, 181, 194, 125, 106, 39, 249, 185, 201, 154, 9, 120, 77, 228, 114, 166, 6, 191, 139, 98, 102, 221, 48, 253, 226, 152, 37, 179, 16, 145, 34, 136, 54, 208, 148, 206, 143, 150, 219, 189, 241, 210, 19, 92, 131, 56, 70, 64, 30, 66, 182, 163, 195, 72, 126, 110, 107, 58, 40, 84, 250, 133, 186, 61, 202, 94, 155, 159, 10, 21, 121, 43, 78, 212, 229, 172, 115, 243, 167, 87, 7, 112, 192, 247, 140, 128, 99, 13, 103, 74, 222, 237, 49, 197, 254, 24, 227, 165, 153, 119, 38, 184, 180, 124, 17, 68, 146, 217, 35, 32, 137, 46, 55, 63, 209, 91, 149, 188, 207, 205, 144, 135, 151, 178, 220, 252, 190, 97, 242, 86, 211, 171, 20, 42, 93, 158, 132, 60, 57, 83, 71, 109, 65, 162, 31, 45, 67, 216, 183, 123, 164, 118, 196, 23, 73, 236, 127, 12, 111, 246, 108, 161, 59, 82, 41, 157, 85, 170, 251, 96, 134, 177, 187, 204, 62, 90, 203, 89, 95, 176, 156, 169, 160, 81, 11, 245, 22, 235, 122, 117, 44, 215, 79, 174, 213, 233, 230, 231, 173, 232, 116, 214, 244, 234, 168, 80, 88, 175]
/-- A power of 2. -/
def ex (n : Nat) : Nat := exT.getD (n % 255) 0
/-- A logarithm. -/
def lg (a : Nat) : Nat := lgT.getD a 0
/-- A product. -/
def mul (a b : Nat) : Nat := if a = 0 ∨ b = 0 then 0 else ex (lg a + lg b)
/-- An inverse; 0 of 0. -/
def inv (a : Nat) : Nat := if a = 0 then 0 else ex (255 - lg a)

theorem ex_closed : (List.range 255).all (fun n => decide (ex (n + 1) = xt (ex n) ∧ 0 < ex n ∧ ex n < 256 ∧ lg (ex n) = n)) = true := by decide +kernel
theorem lg_closed : (List.range 256).all (fun a => decide (lg a < 255 ∧ (0 < a → ex (lg a) = a))) = true := by decide +kernel
theorem ex_mod (n : Nat) : ex (n % 255) = ex n := by simp [ex]
theorem ex_add (n : Nat) : ex (n + 255) = ex n := by simp [ex]
theorem ex_of {n : Nat} (h : n < 255) : ex (n + 1) = xt (ex n) ∧ 0 < ex n ∧ ex n < 256 ∧ lg (ex n) = n := by
  exact of_decide_eq_true (List.all_eq_true.1 ex_closed n (List.mem_range.2 h))
theorem ex_pos (n : Nat) : 0 < ex n := by rw [← ex_mod]; exact (ex_of (Nat.mod_lt _ (by decide))).2.1
theorem ex_lt (n : Nat) : ex n < 256 := by rw [← ex_mod]; exact (ex_of (Nat.mod_lt _ (by decide))).2.2.1
theorem ex_succ (n : Nat) : ex (n + 1) = xt (ex n) := by
  rw [← ex_mod n, ← (ex_of (Nat.mod_lt n (by decide))).1, ← ex_mod, ← ex_mod (n % 255 + 1)]; congr 1; omega
theorem lg_ex (n : Nat) : lg (ex n) = n % 255 := by rw [← ex_mod]; exact (ex_of (Nat.mod_lt _ (by decide))).2.2.2
theorem lg_of {a : Nat} (h : a < 256) : lg a < 255 ∧ (0 < a → ex (lg a) = a) := by
  exact of_decide_eq_true (List.all_eq_true.1 lg_closed a (List.mem_range.2 h))
theorem lg_lt (a : Nat) : lg a < 255 := by
  by_cases h : a < 256
  · exact (lg_of h).1
  · have hl : lgT.length = 256 := by decide +kernel
    have : lg a = 0 := by unfold lg; rw [List.getD_eq_getElem?_getD, List.getElem?_eq_none (by omega)]; rfl
    omega
theorem ex_lg {a : Nat} (h0 : 0 < a) (h : a < 256) : ex (lg a) = a := (lg_of h).2 h0
theorem xt_eq {x : Nat} (h : x < 256) : xt x = (x <<< 1) ^^^ (285 * (x >>> 7)) := by
  unfold xt
  rw [Nat.shiftLeft_eq, Nat.shiftRight_eq_div_pow]
  split
  · rw [show x / 2 ^ 7 = 1 from by omega, Nat.mul_comm]
  · rw [show x / 2 ^ 7 = 0 from by omega, Nat.mul_zero, Nat.xor_zero, Nat.mul_comm]
theorem bit_xor {p q : Nat} (hp : p < 2) (hq : q < 2) : 285 * (p ^^^ q) = (285 * p) ^^^ (285 * q) := by
  rcases Nat.lt_or_ge p 1 with h | h <;> rcases Nat.lt_or_ge q 1 with h' | h'
  · obtain rfl : p = 0 := by omega
    obtain rfl : q = 0 := by omega
    decide
  · obtain rfl : p = 0 := by omega
    obtain rfl : q = 1 := by omega
    decide
  · obtain rfl : p = 1 := by omega
    obtain rfl : q = 0 := by omega
    decide
  · obtain rfl : p = 1 := by omega
    obtain rfl : q = 1 := by omega
    decide
theorem xt_xor {a b : Nat} (ha : a < 256) (hb : b < 256) : xt (a ^^^ b) = xt a ^^^ xt b := by
  have h1 : a >>> 7 < 2 := by rw [Nat.shiftRight_eq_div_pow]; omega
  have h2 : b >>> 7 < 2 := by rw [Nat.shiftRight_eq_div_pow]; omega
  rw [xt_eq (Nat.xor_lt_two_pow (n := 8) ha hb), xt_eq ha, xt_eq hb, Nat.shiftLeft_xor_distrib, Nat.shiftRight_xor_distrib, bit_xor h1 h2]
  generalize a <<< 1 = p
  generalize b <<< 1 = q
  generalize 285 * a >>> 7 = r
  generalize 285 * b >>> 7 = s
  rw [Nat.xor_assoc, Nat.xor_assoc]
  congr 1
  rw [← Nat.xor_assoc, ← Nat.xor_assoc, Nat.xor_comm q r]
theorem ex_inj {n m : Nat} (hn : n < 255) (hm : m < 255) (h : ex n = ex m) : n = m := by
  have a := lg_ex n; have b := lg_ex m; rw [h] at a; omega

theorem xor_lt {a b : Nat} (ha : a < 256) (hb : b < 256) : a ^^^ b < 256 := Nat.xor_lt_two_pow (n := 8) ha hb
theorem mul_lt (a b : Nat) : mul a b < 256 := by unfold mul; split; omega; exact ex_lt _
theorem inv_lt (a : Nat) : inv a < 256 := by unfold inv; split; omega; exact ex_lt _
theorem mul_comm (a b : Nat) : mul a b = mul b a := by unfold mul; rw [Nat.add_comm]; simp only [Or.comm]
theorem zero_mul (a : Nat) : mul 0 a = 0 := by simp [mul]
theorem mul_zero (a : Nat) : mul a 0 = 0 := by simp [mul]
theorem mul_ex (n m : Nat) : mul (ex n) (ex m) = ex (n + m) := by
  have a := ex_pos n; have b := ex_pos m
  unfold mul
  rw [if_neg (by omega), lg_ex, lg_ex, ← ex_mod, ← ex_mod (n + m)]; congr 1; omega
theorem of_pos {a : Nat} (h0 : 0 < a) (h : a < 256) : ∃ n, n < 255 ∧ a = ex n := ⟨lg a, lg_lt a, (ex_lg h0 h).symm⟩
theorem mul_eq_zero {a b : Nat} : mul a b = 0 ↔ a = 0 ∨ b = 0 := by
  unfold mul
  split
  · simp_all
  · have := ex_pos (lg a + lg b); constructor <;> intro h <;> omega
theorem mul_assoc {a b c : Nat} (ha : a < 256) (hb : b < 256) (hc : c < 256) : mul (mul a b) c = mul a (mul b c) := by
  by_cases a0 : a = 0
  · subst a0; simp [zero_mul]
  by_cases b0 : b = 0
  · subst b0; simp [zero_mul, mul_zero]
  by_cases c0 : c = 0
  · subst c0; simp [mul_zero]
  obtain ⟨n, _, rfl⟩ := of_pos (by omega) ha
  obtain ⟨m, _, rfl⟩ := of_pos (by omega) hb
  obtain ⟨k, _, rfl⟩ := of_pos (by omega) hc
  simp only [mul_ex, Nat.add_assoc]
theorem ex_zero : ex 0 = 1 := by decide
theorem mul_one {a : Nat} (ha : a < 256) : mul a 1 = a := by
  by_cases a0 : a = 0
  · subst a0; simp [zero_mul]
  obtain ⟨n, _, rfl⟩ := of_pos (by omega) ha
  rw [← ex_zero, mul_ex, Nat.add_zero]
theorem one_mul {a : Nat} (ha : a < 256) : mul 1 a = a := by rw [mul_comm, mul_one ha]
theorem xt_lt {a : Nat} (ha : a < 256) : xt a < 256 := by
  by_cases a0 : a = 0
  · subst a0; decide
  obtain ⟨n, _, rfl⟩ := of_pos (by omega) ha
  rw [← ex_succ]; exact ex_lt _
theorem mul_two {a : Nat} (ha : a < 256) : mul a 2 = xt a := by
  by_cases a0 : a = 0
  · subst a0; decide
  obtain ⟨n, _, rfl⟩ := of_pos (by omega) ha
  rw [show (2 : Nat) = ex 1 from by decide, mul_ex, ex_succ]
/-- A product with the next power is twice the product. -/
theorem mul_ex_succ {n b : Nat} (hb : b < 256) : mul (ex (n + 1)) b = xt (mul (ex n) b) := by
  by_cases b0 : b = 0
  · subst b0; rw [mul_zero, mul_zero]; decide
  obtain ⟨m, _, rfl⟩ := of_pos (by omega) hb
  rw [mul_ex, mul_ex, ← ex_succ]; congr 1; omega
theorem ex_mul_xor (n : Nat) {b c : Nat} (hb : b < 256) (hc : c < 256) : mul (ex n) (b ^^^ c) = mul (ex n) b ^^^ mul (ex n) c := by
  induction n with
  | zero => rw [ex_zero, one_mul (xor_lt hb hc), one_mul hb, one_mul hc]
  | succ n ih => rw [mul_ex_succ (xor_lt hb hc), mul_ex_succ hb, mul_ex_succ hc, ih, xt_xor (mul_lt _ _) (mul_lt _ _)]
theorem mul_xor {a b c : Nat} (ha : a < 256) (hb : b < 256) (hc : c < 256) : mul a (b ^^^ c) = mul a b ^^^ mul a c := by
  by_cases a0 : a = 0
  · subst a0; simp [zero_mul]
  obtain ⟨n, _, rfl⟩ := of_pos (by omega) ha
  exact ex_mul_xor n hb hc
theorem xor_mul {a b c : Nat} (ha : a < 256) (hb : b < 256) (hc : c < 256) : mul (a ^^^ b) c = mul a c ^^^ mul b c := by
  rw [mul_comm, mul_xor hc ha hb, mul_comm c a, mul_comm c b]
theorem mul_inv {a : Nat} (h0 : 0 < a) (ha : a < 256) : mul a (inv a) = 1 := by
  obtain ⟨n, hn, rfl⟩ := of_pos h0 ha
  unfold inv
  rw [if_neg (by omega), lg_ex, mul_ex, Nat.mod_eq_of_lt hn, show n + (255 - n) = 0 + 255 from by omega, ex_add, ex_zero]
theorem inv_pos {a : Nat} (h0 : 0 < a) : 0 < inv a := by unfold inv; rw [if_neg (by omega)]; exact ex_pos _
theorem mul_left_inj {a x y : Nat} (h0 : 0 < a) (ha : a < 256) (hx : x < 256) (hy : y < 256) (h : mul a x = mul a y) : x = y := by
  have e : mul (inv a) (mul a x) = mul (inv a) (mul a y) := by rw [h]
  rw [← mul_assoc (inv_lt a) ha hx, ← mul_assoc (inv_lt a) ha hy, mul_comm (inv a) a, mul_inv h0 ha, one_mul hx, one_mul hy] at e
  exact e
theorem inv_of {a x : Nat} (ha : a < 256) (hx : x < 256) (h : mul a x = 1) : x = inv a := by
  have h0 : 0 < a := by
    rcases Nat.eq_zero_or_pos a with h0 | h0
    · subst h0; rw [zero_mul] at h; omega
    · exact h0
  exact mul_left_inj h0 ha hx (inv_lt a) (by rw [h, mul_inv h0 ha])
end FM
end Go.Proofs.YtllfhaocdknejaaDoor
