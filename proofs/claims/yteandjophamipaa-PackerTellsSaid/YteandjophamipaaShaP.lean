/- The walks of the turn of a number's bits. -/
import Derived.Test.YteandjophamipaaShaMath
import Derived.Test.YteandjophamipaaProg
import Derived.Test.YteandjophamipaaShelf
import Derived.Test.YteandjophamipaaText
namespace Go.Proofs.Yteandjophamipaa
open Go.RowKit
theorem wrap_u32 (n : Nat) : IntKind.u32.wrap (n : Int) = ((n % 4294967296 : Nat) : Int) := by rw [IntKind.wrap_u32]; omega
theorem turn_bits : ∀ n < 32, 1 ≤ n → bits .and .u64 (IntKind.u64.wrap (-((n : Nat) : Int))) 31 = ((32 - n : Nat) : Int) := by decide
theorem or_u32 (a b : Nat) (ha : a < 4294967296) (hb : b < 4294967296) : bits .or .u32 (a : Int) (b : Int) = ((a ||| b : Nat) : Int) :=
  bits_nat .or .u32 a b _ ha hb (· ||| ·) (fun x y => BitVec.toNat_or x y) rfl (IntWalk.u32_in _ (by have := Nat.or_lt_two_pow (n := 32) ha hb; omega))
theorem xor_u32 (a b : Nat) (ha : a < 4294967296) (hb : b < 4294967296) : bits .xor .u32 (a : Int) (b : Int) = ((a ^^^ b : Nat) : Int) :=
  bits_nat .xor .u32 a b _ ha hb (· ^^^ ·) (fun x y => BitVec.toNat_xor x y) rfl (IntWalk.u32_in _ (by have := Nat.xor_lt_two_pow (n := 32) ha hb; omega))
theorem and_u32 (a b : Nat) (ha : a < 4294967296) (hb : b < 4294967296) : bits .and .u32 (a : Int) (b : Int) = ((a &&& b : Nat) : Int) :=
  bits_nat .and .u32 a b _ ha hb (· &&& ·) (fun x y => BitVec.toNat_and x y) rfl (IntWalk.u32_in _ (by have := Nat.and_lt_two_pow (n := 32) a hb; omega))
theorem shr_nat (x n : Nat) : (x : Int) / 2 ^ n = ((x >>> n : Nat) : Int) := by
  rw [Nat.shiftRight_eq_div_pow, Int.natCast_ediv, Int.natCast_pow]; rfl
theorem shl_nat (x n : Nat) : (x : Int) * 2 ^ n % 4294967296 = ((x <<< n % 4294967296 : Nat) : Int) := by
  rw [Nat.shiftLeft_eq, Int.natCast_emod, Int.natCast_mul, Int.natCast_pow]; rfl
theorem rotr_val (x n : Nat) (hx : x < 4294967296) (h2 : n ≤ 32) : bits .or .u32 ((x : Int) * 2 ^ (32 - n) % 4294967296) ((x : Int) / 2 ^ (32 - (32 - n))) = ((SH.rotr x n : Nat) : Int) := by
  rw [show 32 - (32 - n) = n from by omega, shr_nat, shl_nat, or_u32 _ _ (Nat.mod_lt _ (by decide)) (Nat.lt_of_le_of_lt (Nat.shiftRight_le _ _) hx)]
  unfold SH.rotr; rw [Nat.or_comm]
set_option maxRecDepth 100000 in
set_option maxHeartbeats 1000000 in
theorem rotl_any (x n : Nat) (w : World) (hx : x < 4294967296) (h1 : 1 ≤ n) (h2 : n < 32) :
    Calls Try.prog 79 #[.int .u32 (x : Int), .int .i64 (-(n : Int))] w fun e w' => e = .returned (.int .u32 (SH.rotr x n : Int)) ∧ w = w' := by
  have hb := turn_bits n h2 h1
  go_enter Try.func79, Try.ntmps79
  go_wp2
  go_ret
  exact ⟨ret_int (rotr_val x n hx (by omega)), rfl⟩
/-- The program's turn; the document's. -/
theorem turn_any (x n : Nat) (w : World) (hx : x < 4294967296) (h1 : 1 ≤ n) (h2 : n < 32) :
    Calls Try.prog 76 #[.int .u32 (x : Int), .int .i64 (n : Int)] w fun e w' => e = .returned (.int .u32 (SH.rotr x n : Int)) ∧ w = w' := by
  go_enter Try.func76, Try.ntmps76
  go_wp2_with fail
  refine Calls.mono (rotl_any x n _ hx h1 h2) ?_
  rintro e w' ⟨rfl, rfl⟩
  go_wp2
  go_ret
  exact ⟨rfl, rfl⟩
theorem refturn_any (x n : Nat) (w : World) (hx : x < 4294967296) (h1 : 1 ≤ n) (h2 : n < 32) :
    Calls Try.prog 78 #[.int .u32 (x : Int), .int .u32 (n : Int)] w fun e w' => e = .returned (.int .u32 (SH.rotr x n : Int)) ∧ w = w' := by
  go_enter Try.func78, Try.ntmps78
  go_wp2
  go_ret
  exact ⟨ret_int (by rw [shr_nat, shl_nat, or_u32 _ _ (Nat.lt_of_le_of_lt (Nat.shiftRight_le _ _) hx) (Nat.mod_lt _ (by decide))]; rfl), rfl⟩
end Go.Proofs.Yteandjophamipaa
/- Primes, and the bits of their roots, as plain functions. No program in sight. -/
namespace Go.Proofs.Yteandjophamipaa.SH
def primeB (n : Nat) : Bool := (List.range n).all fun d => decide (d < 2) || decide (n < d * d) || n % d != 0
def primesB (n : Nat) : List Nat := (List.range n).filter fun m => decide (2 ≤ m) && primeB m
theorem primes_312 : primesB 312 = primesL := by decide +kernel
theorem primesB_succ (n : Nat) (h : 2 ≤ n) : primesB (n + 1) = if primeB n = true then primesB n ++ [n] else primesB n := by
  unfold primesB
  rw [List.range_succ, List.filter_append]
  cases hp : primeB n <;> simp [hp, h]
theorem primesB_two : primesB 2 = [] := by decide
theorem primesB_more {n m : Nat} (h : n ≤ m) : (primesB n).length ≤ (primesB m).length := by
  induction m with
  | zero => obtain rfl : n = 0 := by omega
            exact Nat.le_refl _
  | succ m ih =>
    rcases Nat.lt_or_ge m n with h1 | h1
    · obtain rfl : n = m + 1 := by omega
      exact Nat.le_refl _
    · refine Nat.le_trans (ih h1) ?_
      unfold primesB
      rw [List.range_succ, List.filter_append, List.length_append]
      omega
theorem primesB_few {n : Nat} (h : (primesB n).length < 64) : n < 312 := by
  rcases Nat.lt_or_ge n 312 with h1 | h1
  · exact h1
  · have := primesB_more h1
    rw [primes_312] at this
    have e : primesL.length = 64 := rfl
    omega
theorem primesB_full {n : Nat} (h : (primesB n).length = 64) : primesB n = primesL := by
  have key : ∀ m, 312 ≤ m → ∃ l, primesB m = primesL ++ l := by
    intro m hm
    induction m with
    | zero => omega
    | succ m ih =>
      rcases Nat.lt_or_ge m 312 with h1 | h1
      · obtain rfl : m = 311 := by omega
        exact ⟨[], by rw [primes_312]; rfl⟩
      · obtain ⟨l, hl⟩ := ih h1
        rw [primesB_succ m (by omega)]
        split
        · exact ⟨l ++ [m], by rw [hl, List.append_assoc]⟩
        · exact ⟨l, hl⟩
  rcases Nat.lt_or_ge n 312 with h1 | h1
  · have h2 : (primesB n).length ≤ (primesB 311).length := primesB_more (by omega)
    have e : (primesB 311).length = 63 := by decide +kernel
    omega
  · obtain ⟨l, hl⟩ := key n h1
    have e : primesL.length = 64 := rfl
    rw [hl, List.length_append, e] at h
    have : l = [] := List.length_eq_zero_iff.1 (by omega)
    rw [hl, this, List.append_nil]
theorem primesB_pre {n m : Nat} (h : n ≤ m) : ∃ l, primesB m = primesB n ++ l := by
  induction m with
  | zero => obtain rfl : n = 0 := by omega
            exact ⟨[], by simp⟩
  | succ m ih =>
    rcases Nat.lt_or_ge m n with h1 | h1
    · obtain rfl : n = m + 1 := by omega
      exact ⟨[], by simp⟩
    · obtain ⟨l, hl⟩ := ih h1
      refine ⟨l ++ (List.filter (fun m => decide (2 ≤ m) && primeB m) [m]), ?_⟩
      rw [← List.append_assoc, ← hl]
      unfold primesB
      rw [List.range_succ, List.filter_append]
theorem primesB_take {n : Nat} (h : n ≤ 312) : primesB n = primesL.take (primesB n).length := by
  obtain ⟨l, hl⟩ := primesB_pre h
  rw [primes_312] at hl
  rw [hl, List.take_left]
/-- The next one. -/
theorem primesB_next {n : Nat} (h2 : 2 ≤ n) (h : n < 312) (hp : primeB n = true) : (primesB n).length < 64 ∧ primesL.getD (primesB n).length 0 = n ∧ (primesB (n + 1)).length = (primesB n).length + 1 := by
  have e : primesB (n + 1) = primesB n ++ [n] := by rw [primesB_succ n h2, if_pos hp]
  have hl : (primesB (n + 1)).length = (primesB n).length + 1 := by rw [e, List.length_append]; rfl
  obtain ⟨l, hl2⟩ := primesB_pre (show n + 1 ≤ 312 by omega)
  rw [primes_312, e] at hl2
  have h64 : primesL.length = 64 := rfl
  refine ⟨?_, ?_, hl⟩
  · rw [hl2] at h64
    simp at h64; omega
  · rw [hl2, List.getD_eq_getElem?_getD, List.append_assoc, List.getElem?_append_right (Nat.le_refl _), Nat.sub_self]; rfl
theorem primesB_same {n : Nat} (h2 : 2 ≤ n) (hp : primeB n = false) : primesB (n + 1) = primesB n := by
  rw [primesB_succ n h2, hp]; rfl
theorem primeB_no {n d : Nat} (h2 : 2 ≤ d) (hd : d * d ≤ n) (hm : n % d = 0) : primeB n = false := by
  cases h : primeB n with
  | false => rfl
  | true =>
    unfold primeB at h
    rw [List.all_eq_true] at h
    have hlt : d < n := by
      have : d * 2 ≤ d * d := Nat.mul_le_mul_left d h2
      omega
    have := h d (List.mem_range.2 hlt)
    simp only [Bool.or_eq_true, decide_eq_true_eq, bne_iff_ne] at this
    omega
theorem primeB_yes {n d : Nat} (hd : n < d * d) (h : ∀ j, 2 ≤ j → j < d → n % j ≠ 0) : primeB n = true := by
  unfold primeB
  rw [List.all_eq_true]
  intro j _
  simp only [Bool.or_eq_true, decide_eq_true_eq, bne_iff_ne]
  by_cases h1 : j < 2
  · exact .inl (.inl h1)
  · by_cases h2 : n < j * j
    · exact .inl (.inr h2)
    · refine .inr (h j (by omega) ?_)
      rcases Nat.lt_or_ge j d with h3 | h3
      · exact h3
      · have : d * d ≤ j * j := Nat.mul_le_mul h3 h3
        omega

/-- Is the power of x above n shifted by 32 bits for each factor? -/
def ovr (n k x : Nat) : Bool := decide (n * 2 ^ (32 * k) < x ^ k)
/-- The greatest number that is not, bit by bit. -/
def grd (P : Nat → Bool) : Nat → Nat → Nat
  | 0, x => x
  | b + 1, x => grd P b (if P (x + 2 ^ b) then x else x + 2 ^ b)
def rootL (n k : Nat) : Nat := grd (ovr n k) 36 0 % 4294967296
theorem roots3 : primesL.map (fun p => rootL p 3) = KL := by decide +kernel
theorem roots2 : (primesL.take 8).map (fun p => rootL p 2) = HL := by decide +kernel
theorem or_bit {x b : Nat} (h : x % 2 ^ (b + 1) = 0) : x ||| 2 ^ b = x + 2 ^ b := by
  obtain ⟨q, rfl⟩ := Nat.dvd_of_mod_eq_zero h
  rw [← Nat.two_pow_add_eq_or_of_lt (i := b + 1) (b := 2 ^ b) (by rw [Nat.pow_succ]; have := Nat.two_pow_pos b; omega) q]
end Go.Proofs.Yteandjophamipaa.SH
/- The walks that make the numbers of package sha: primes, their roots' bits. -/
namespace Go.Proofs.Yteandjophamipaa
open Go.RowKit
set_option maxRecDepth 100000 in
set_option maxHeartbeats 1000000 in
theorem prime_any (n : Nat) (w : World) (h2 : 2 ≤ n) (hn : n < 1000) :
    Calls Try.prog 68 #[.int .u64 (n : Int)] w fun e w' => e = .returned (.bool (SH.primeB n)) ∧ w = w' := by
  go_enter Try.func68, Try.ntmps68
  go_wp2
  go_loop [3] (fun i => ∃ d : Nat, 2 ≤ d ∧ d ≤ n ∧ i = .int .u64 d ∧ Hid (∀ j, 2 ≤ j → j < d → n % j ≠ 0)) (fun i => n + 1 - (intOf i).toNat)
  case atStart => exact ⟨2, by omega, by omega, rfl, fun j _ _ => by omega⟩
  case round =>
    obtain ⟨d, hd2, hdn, rfl, hj⟩ := hrel
    have q1 : (d : Int) * (d : Int) ≤ 1000000 := by
      have : d * d ≤ 1000 * 1000 := Nat.mul_le_mul (by omega) (by omega)
      rw [← Int.natCast_mul]; omega
    have q0 : 0 ≤ (d : Int) * (d : Int) := by rw [← Int.natCast_mul]; omega
    by_cases hle : d * d ≤ n
    · have g1 : (d : Int) * (d : Int) ≤ (n : Int) := by rw [← Int.natCast_mul]; omega
      have hdl : d + 1 ≤ n := by
        have : d * 2 ≤ d * d := Nat.mul_le_mul_left d hd2
        omega
      by_cases hm : n % d = 0
      · have g2 : ((n : Int) % (d : Int) == 0) = true := by rw [beq_iff_eq, ← Int.natCast_emod, hm]; rfl
        have HR : Hid (SH.primeB n = false) := SH.primeB_no hd2 hle hm
        clear hm hle
        go_wp2
        go_ret
        exact ⟨by rw [HR.out] <;> rfl, rfl⟩
      · have g2 : ((n : Int) % (d : Int) == 0) = false := by rw [beq_eq_false_iff_ne, ← Int.natCast_emod]; omega
        have HN : Hid (∀ j, 2 ≤ j → j < d + 1 → n % j ≠ 0) := fun j h1 h2 => by
          by_cases e : j = d
          · subst e; exact hm
          · exact hj.out j h1 (by omega)
        clear hm hle
        go_wp2
        exact ⟨⟨d + 1, by omega, by omega, by go_num, HN⟩, by simp [intOf]; omega⟩
    · have g1 : ¬ ((d : Int) * (d : Int) ≤ (n : Int)) := by rw [← Int.natCast_mul]; omega
      have HR : Hid (SH.primeB n = true) := SH.primeB_yes (by omega) hj.out
      clear hle
      go_wp2
      go_ret
      exact ⟨by rw [HR.out] <;> rfl, rfl⟩
theorem ovr2 (n x : Nat) : SH.ovr n 2 x = (decide (n < x * x / 18446744073709551616) || (decide (x * x / 18446744073709551616 = n) && decide (0 < x * x % 18446744073709551616))) := by
  unfold SH.ovr
  have e : x ^ 2 = x * x := Nat.pow_two x
  rw [e, show 2 ^ (32 * 2) = 18446744073709551616 from rfl]
  generalize x * x = y
  rw [← Bool.decide_and, ← Bool.decide_or, decide_eq_decide]; omega
theorem ovr3 (n x : Nat) : SH.ovr n 3 x = (decide (n * 4294967296 < x * x % 18446744073709551616 * x / 18446744073709551616 + x * x / 18446744073709551616 * x) ||
    (decide (x * x % 18446744073709551616 * x / 18446744073709551616 + x * x / 18446744073709551616 * x = n * 4294967296) && decide (0 < x * x % 18446744073709551616 * x % 18446744073709551616))) := by
  unfold SH.ovr
  have e : x ^ 3 = 18446744073709551616 * (x * x / 18446744073709551616 * x) + x * x % 18446744073709551616 * x := by
    rw [← Nat.mul_assoc, ← Nat.add_mul, Nat.div_add_mod, Nat.pow_succ, Nat.pow_two]
  rw [e, show 2 ^ (32 * 3) = 4294967296 * 18446744073709551616 from rfl]
  generalize x * x / 18446744073709551616 * x = a
  generalize x * x % 18446744073709551616 * x = b
  rw [← Bool.decide_and, ← Bool.decide_or, decide_eq_decide]; omega
set_option maxRecDepth 100000 in
set_option maxHeartbeats 1000000 in
theorem over2_walk (x n H L : Nat) (w : World) (r : Bool) (_hn : n < 1000)
    (HM : Hid (Calls Try.prog 64 #[.int .u64 (x : Int), .int .u64 (x : Int)] w fun e w' => e = .returned (.tuple #[.int .u64 (H : Int), .int .u64 (L : Int)]) ∧ w' = w))
    (hr : (decide (n < H) = true ∧ r = true) ∨ (decide (n < H) = false ∧ ((H : Int) == (n : Int)) = true ∧ decide (0 < L) = r) ∨ (decide (n < H) = false ∧ ((H : Int) == (n : Int)) = false ∧ r = false)) :
    Calls Try.prog 69 #[.int .u64 (x : Int), .int .u64 (n : Int), .bool false] w fun e w' => e = .returned (.bool r) ∧ w = w' := by
  rcases hr with ⟨g1, rfl⟩ | ⟨g1, g2, g3⟩ | ⟨g1, g2, rfl⟩
  all_goals
    go_enter Try.func69, Try.ntmps69
    go_wp2_with fail
    refine Calls.mono HM.out ?_
    rintro e w' ⟨rfl, rfl⟩
    go_wp2
    go_ret
    exact ⟨rfl, rfl⟩
theorem over2_any (x n : Nat) (w : World) (hx : x < 68719476736) (hn : n < 1000) :
    Calls Try.prog 69 #[.int .u64 (x : Int), .int .u64 (n : Int), .bool false] w fun e w' => e = .returned (.bool (SH.ovr n 2 x)) ∧ w = w' := by
  have HM := Lib.hid (Sh.bits_Mul64 x x (by omega) (by omega) w)
  refine over2_walk x n _ _ w _ hn HM ?_
  rw [ovr2]
  generalize x * x / 18446744073709551616 = H
  generalize x * x % 18446744073709551616 = L
  by_cases h1 : n < H
  · exact .inl ⟨decide_eq_true h1, by rw [decide_eq_true h1]; rfl⟩
  · by_cases h2 : H = n
    · exact .inr (.inl ⟨decide_eq_false h1, by rw [beq_iff_eq]; omega, by rw [decide_eq_false h1, decide_eq_true h2]; rfl⟩)
    · exact .inr (.inr ⟨decide_eq_false h1, by rw [beq_eq_false_iff_ne]; omega, by rw [decide_eq_false h1, decide_eq_false h2]; rfl⟩)
set_option maxRecDepth 100000 in
set_option maxHeartbeats 1000000 in
theorem over3_walk (x n H L T B : Nat) (w : World) (r : Bool) (_hn : n < 1000) (_i0 : 0 ≤ (H : Int) * (x : Int)) (_i1 : (H : Int) * (x : Int) ≤ 17523466567680) (_i2 : T ≤ 68719476736)
    (HM : Hid (Calls Try.prog 64 #[.int .u64 (x : Int), .int .u64 (x : Int)] w fun e w' => e = .returned (.tuple #[.int .u64 (H : Int), .int .u64 (L : Int)]) ∧ w' = w))
    (HM2 : Hid (Calls Try.prog 64 #[.int .u64 (L : Int), .int .u64 (x : Int)] w fun e w' => e = .returned (.tuple #[.int .u64 (T : Int), .int .u64 (B : Int)]) ∧ w' = w))
    (hr : (decide ((n : Int) * 4294967296 < (T : Int) + (H : Int) * (x : Int)) = true ∧ r = true) ∨ (decide ((n : Int) * 4294967296 < (T : Int) + (H : Int) * (x : Int)) = false ∧ ((T : Int) + (H : Int) * (x : Int) == (n : Int) * 4294967296) = true ∧ decide (0 < B) = r) ∨
      (decide ((n : Int) * 4294967296 < (T : Int) + (H : Int) * (x : Int)) = false ∧ ((T : Int) + (H : Int) * (x : Int) == (n : Int) * 4294967296) = false ∧ r = false)) :
    Calls Try.prog 69 #[.int .u64 (x : Int), .int .u64 (n : Int), .bool true] w fun e w' => e = .returned (.bool r) ∧ w = w' := by
  rcases hr with ⟨g1, rfl⟩ | ⟨g1, g2, g3⟩ | ⟨g1, g2, rfl⟩
  all_goals
    go_enter Try.func69, Try.ntmps69
    go_wp2_with fail
    refine Calls.mono HM.out ?_
    rintro e w' ⟨rfl, rfl⟩
    go_wp2_with fail
    refine Calls.mono HM2.out ?_
    rintro e w' ⟨rfl, rfl⟩
    go_wp2
    go_ret
    exact ⟨rfl, rfl⟩
theorem over3_cases (n a B : Nat) (A : Int) (hA : A = (a : Int)) (r : Bool) (hr : r = (decide (n * 4294967296 < a) || (decide (a = n * 4294967296) && decide (0 < B)))) :
    (decide ((n : Int) * 4294967296 < A) = true ∧ r = true) ∨ (decide ((n : Int) * 4294967296 < A) = false ∧ (A == (n : Int) * 4294967296) = true ∧ decide (0 < B) = r) ∨
      (decide ((n : Int) * 4294967296 < A) = false ∧ (A == (n : Int) * 4294967296) = false ∧ r = false) := by
  subst hA hr
  by_cases h1 : n * 4294967296 < a
  · exact .inl ⟨decide_eq_true (by omega), by rw [decide_eq_true h1]; rfl⟩
  · by_cases h2 : a = n * 4294967296
    · exact .inr (.inl ⟨decide_eq_false (by omega), by rw [beq_iff_eq]; omega, by rw [decide_eq_false h1, decide_eq_true h2]; rfl⟩)
    · exact .inr (.inr ⟨decide_eq_false (by omega), by rw [beq_eq_false_iff_ne]; omega, by rw [decide_eq_false h1, decide_eq_false h2]; rfl⟩)
theorem over3_size (x : Nat) (hx : x < 68719476736) : x * x / 18446744073709551616 * x ≤ 17523466567680 ∧ x * x % 18446744073709551616 < 18446744073709551616 ∧ x * x % 18446744073709551616 * x / 18446744073709551616 ≤ 68719476736 := by
  have hxx : x * x ≤ 68719476736 * 68719476736 := Nat.mul_le_mul (by omega) (by omega)
  have hL : x * x % 18446744073709551616 < 18446744073709551616 := Nat.mod_lt _ (by decide)
  have hH : x * x / 18446744073709551616 ≤ 256 := by omega
  have hLx : x * x % 18446744073709551616 * x ≤ 18446744073709551616 * x := Nat.mul_le_mul_right x (by omega)
  refine ⟨?_, hL, by omega⟩
  have hH2 : x * x / 18446744073709551616 ≤ 255 := by
    have : x * x ≤ 68719476735 * 68719476735 := Nat.mul_le_mul (by omega) (by omega)
    omega
  have := Nat.mul_le_mul hH2 (show x ≤ 68719476735 by omega)
  omega
theorem over3_any (x n : Nat) (w : World) (hx : x < 68719476736) (hn : n < 1000) :
    Calls Try.prog 69 #[.int .u64 (x : Int), .int .u64 (n : Int), .bool true] w fun e w' => e = .returned (.bool (SH.ovr n 3 x)) ∧ w = w' := by
  obtain ⟨h1, h2, h3⟩ := over3_size x hx
  refine over3_walk x n _ _ _ _ w _ hn ?_ ?_ h3 (Lib.hid (Sh.bits_Mul64 x x (by omega) (by omega) w)) (Lib.hid (Sh.bits_Mul64 _ x h2 (by omega) w)) ?_
  · rw [← Int.natCast_mul]; omega
  · rw [← Int.natCast_mul]; omega
  · have h4 := ovr3 n x
    generalize x * x / 18446744073709551616 = H at *
    generalize x * x % 18446744073709551616 = L at *
    generalize L * x / 18446744073709551616 = T at *
    generalize L * x % 18446744073709551616 = B at *
    exact over3_cases n (T + H * x) B _ (by rw [Int.natCast_add, Int.natCast_mul]) _ h4
theorem or_u64 (a b : Nat) (ha : a < 18446744073709551616) (hb : b < 18446744073709551616) : bits .or .u64 (a : Int) (b : Int) = ((a ||| b : Nat) : Int) := by
  refine bits_nat .or .u64 a b _ ha hb (· ||| ·) (fun x y => BitVec.toNat_or x y) rfl ?_
  have := Nat.or_lt_two_pow (n := 64) ha hb
  exact IntWalk.u64_in _ (by omega)
theorem grd_mod {P : Nat → Bool} {j x : Nat} (h : x % 2 ^ (j + 1) = 0) : (if P (x + 2 ^ j) then x else x + 2 ^ j) % 2 ^ j = 0 := by
  have h1 : x % 2 ^ j = 0 := by
    obtain ⟨q, rfl⟩ := Nat.dvd_of_mod_eq_zero h
    rw [Nat.pow_succ, Nat.mul_assoc]; exact Nat.mul_mod_right _ _
  split
  · exact h1
  · rw [Nat.add_mod, h1]; simp
theorem pow36 {j : Nat} (h : j < 36) : 2 ^ j ≤ 34359738368 := by
  have := Nat.pow_le_pow_right (n := 2) (by omega) (show j ≤ 35 by omega)
  exact this
theorem bit_top {j x : Nat} (hj : j < 36) (h : x % 2 ^ (j + 1) = 0) (hx : x < 68719476736) : x + 2 ^ j < 68719476736 := by
  obtain ⟨q, rfl⟩ := Nat.dvd_of_mod_eq_zero h
  have e : 68719476736 = 2 ^ (j + 1) * 2 ^ (35 - j) := by rw [← Nat.pow_add, show j + 1 + (35 - j) = 36 from by omega]
  have hq : q < 2 ^ (35 - j) := by
    rw [e] at hx
    exact Nat.lt_of_mul_lt_mul_left hx
  have h2 : 2 ^ (j + 1) * (q + 1) ≤ 68719476736 := by rw [e]; exact Nat.mul_le_mul_left _ hq
  rw [Nat.mul_add, Nat.mul_one, Nat.pow_succ] at h2
  have := Nat.two_pow_pos j
  rw [Nat.pow_succ]; omega
theorem int_pow (j : Nat) : ((2 ^ j : Nat) : Int) = (2 : Int) ^ j := by rw [Int.natCast_pow]; rfl
/-- 'x | 1<<b' as the walk writes it. -/
theorem or_shift {j x : Nat} (hj : j < 36) (h : x % 2 ^ (j + 1) = 0) (hx : x < 68719476736) : bits .or .u64 (x : Int) (IntKind.u64.wrap ((2 : Int) ^ j)) = ((x + 2 ^ j : Nat) : Int) := by
  have h1 := pow36 hj
  rw [← int_pow, IntWalk.u64_in _ (by omega), or_u64 _ _ (by omega) (by omega), SH.or_bit h]
set_option maxRecDepth 100000 in
set_option maxHeartbeats 1000000 in
theorem rootbits_any (n k : Nat) (c : Bool) (w : World) (hn : n < 1000)
    (ho : Hid (∀ (x : Nat) (w : World), x < 68719476736 → Calls Try.prog 69 #[.int .u64 (x : Int), .int .u64 (n : Int), .bool c] w fun e w' => e = .returned (.bool (SH.ovr n k x)) ∧ w = w')) :
    Calls Try.prog 59 #[.int .u64 (n : Int), .bool c] w fun e w' => e = .returned (.int .u32 (SH.rootL n k : Int)) ∧ w = w' := by
  have hn := hn
  go_enter Try.func59, Try.ntmps59
  go_wp2
  go_loop [5, 6] (fun x b => ∃ (j m : Nat), j ≤ 36 ∧ b = .int .i64 ((j : Int) - 1) ∧ x = .int .u64 (m : Int) ∧ Hid (m % 2 ^ j = 0) ∧ m < 68719476736 ∧ Hid (SH.grd (SH.ovr n k) j m = SH.grd (SH.ovr n k) 36 0)) (fun _ b => (intOf b + 1).toNat)
  case atStart => exact ⟨36, 0, by omega, rfl, rfl, rfl, by omega, rfl⟩
  case round =>
    obtain ⟨j, m, hj, rfl, rfl, h1, h2, h3⟩ := hrel
    cases j with
    | zero =>
      have HE : Hid ((m : Int) % 4294967296 = (SH.rootL n k : Int)) := by
        have e : m = SH.grd (SH.ovr n k) 36 0 := h3.out
        show _ = _
        unfold SH.rootL; rw [← e]; omega
      go_wp2
      go_ret
      exact ⟨ret_int HE.out, rfl⟩
    | succ j =>
      have HO := Lib.hid (or_shift (by omega) h1.out h2)
      have h4 := bit_top (by omega) h1.out h2
      have HM := Lib.hid (grd_mod (P := SH.ovr n k) h1.out)
      have HG : Hid (SH.grd (SH.ovr n k) j (if SH.ovr n k (m + 2 ^ j) = true then m else m + 2 ^ j) = SH.grd (SH.ovr n k) 36 0) := h3.out
      have HC := Lib.hid (ho.out (m + 2 ^ j) w h4)
      clear h1 h3 ho
      go_wp2_with fail
      rw [HO.out]
      generalize m + 2 ^ j = m2 at *
      refine Calls.mono HC.out ?_
      rintro e w' ⟨rfl, rfl⟩
      cases hp : SH.ovr n k m2 with
      | true =>
        rw [hp] at HM HG
        go_wp2
        exact ⟨⟨j, m, by omega, by go_num, rfl, HM, h2, HG⟩, by simp [intOf]⟩
      | false =>
        rw [hp] at HM HG
        go_wp2
        exact ⟨⟨j, m2, by omega, by go_num, rfl, HM, h4, HG⟩, by simp [intOf]⟩
theorem root2_any (n : Nat) (w : World) (hn : n < 1000) : Calls Try.prog 59 #[.int .u64 (n : Int), .bool false] w fun e w' => e = .returned (.int .u32 (SH.rootL n 2 : Int)) ∧ w = w' :=
  rootbits_any n 2 false w hn (Lib.hid fun (x : Nat) (w : World) hx => over2_any x n w hx hn)
theorem root3_any (n : Nat) (w : World) (hn : n < 1000) : Calls Try.prog 59 #[.int .u64 (n : Int), .bool true] w fun e w' => e = .returned (.int .u32 (SH.rootL n 3 : Int)) ∧ w = w' :=
  rootbits_any n 3 true w hn (Lib.hid fun (x : Nat) (w : World) hx => over3_any x n w hx hn)
end Go.Proofs.Yteandjophamipaa
/- The walks of sha.primes and of sha.New. -/
namespace Go.Proofs.Yteandjophamipaa
open Go.RowKit
def IsU64 (v : Value) (n : Nat) : Prop := v = .int .u64 (n : Int)
def IsU32 (v : Value) (n : Nat) : Prop := v = .int .u32 (n : Int)
theorem elU64 : ElemTy Try.prog 86 88 (.int .u64 0) 8 := ⟨Try.underlying86, by kernel_rfl, rfl, by decide⟩
theorem elU32 : ElemTy Try.prog 83 81 (.int .u32 0) 4 := ⟨Try.underlying83, by kernel_rfl, rfl, by decide⟩
set_option maxRecDepth 100000 in
set_option maxHeartbeats 4000000 in
theorem primes_any (w : World) :
    Calls Try.prog 58 #[.int .i64 64] w fun e w' => ∃ v, e = .returned v ∧ SeqIn (w.heap.size ≤ ·) 88 IsU64 w'.heap v SH.primesL ∧ Keeps w w' := by
  go_enter Try.func58, Try.ntmps58
  go_wp2
  go_loopw [3, 4] (fun v i wr => ∃ m : Nat, 2 ≤ m ∧ i = .int .u64 (m : Int) ∧ Hid (OwnSeq w.heap.size 88 IsU64 wr v (SH.primesB m)) ∧ Hid ((SH.primesB m).length ≤ 64) ∧ Hid (Keeps w wr)) (fun _ i _ => 312 - (intOf i).toNat)
  case atStart => exact ⟨2, by omega, rfl, OwnSeq.nil _ _ _ _, (by show _ ≤ _; rw [SH.primesB_two]; decide), keeps_refl w⟩
  case round =>
    obtain ⟨m, hm, rfl, hO, hL, hK⟩ := hrel
    obtain ⟨us, hu1, hu2, hu3⟩ := hO.out
    have HU := Lib.hid hu1
    have HL2 := Lib.hid hu2
    have H3 := Lib.hid hu3
    have hle : us.length ≤ 64 := by rw [hu2]; exact hL.out
    obtain ⟨pv, qv, rfl⟩ : ∃ p q, u3 = .slice p us.length q := by
      obtain ⟨p, q, e⟩ := seq_shape (SeqIn.at_ (hO.out.seq (by have := hL.out; omega)))
      exact ⟨p, q, by rw [e, hu2]⟩
    clear hu1 hu2 hu3
    by_cases hlt : us.length < 64
    · have hm2 : m < 312 := SH.primesB_few (by have := HL2.out; omega)
      have HS := Lib.hid (SH.primesB_succ m hm)
      have g1 : (us.length : Int) < 64 := by omega
      go_wp2_with fail
      refine Calls.mono (prime_any m _ hm (by omega)) ?_
      rintro e w' ⟨rfl, rfl⟩
      cases hp : SH.primeB m with
      | false =>
        have HN : Hid (SH.primesB (m + 1) = SH.primesB m) := by show _ = _; rw [HS.out, hp]; rfl
        clear hp
        go_wp2
        refine ⟨⟨m + 1, by omega, by go_num, ?_, ?_, hK⟩, by simp [intOf]; omega⟩
        · rw [HN.out]; exact hO
        · rw [HN.out]; exact hL
      | true =>
        have HN : Hid (SH.primesB (m + 1) = SH.primesB m ++ [m]) := by show _ = _; rw [HS.out, hp]; rfl
        have hb := hK.out.size
        clear hp
        go_wp2_with (at_builtin; refine wp_app1 elU64 rfl _ _ rfl w.heap.size _ us rfl (HU.out.alloc _) _ (.int .u64 (m : Int)) rfl ?c1 rfl ?c2 ?c3 ?_)
        case c1 => exact World.cell?_alloc_new _ _ _ _
        case c2 => omega
        case c3 => simp; omega
        intro v' w6 hown hchg
        have hpush : Hid (OwnSeq w.heap.size 88 IsU64 w6 v' (SH.primesB (m + 1))) := by show OwnSeq _ _ _ _ _ _; rw [HN.out]; exact OwnSeq.push (R := IsU64) HL2.out H3.out hown (fun _ _ _ x => x) rfl
        have HK6 : Hid (Keeps w w6) := hK.out.then (Chg.kept ((((Chg.refl _ wr).alloc _).trans hchg).mono (T' := fun b => w.heap.size ≤ b) fun b _ hb => (own_block HU.out b hb).1) hb) (Nat.le_refl _)
        have HL6 : Hid ((SH.primesB (m + 1)).length ≤ 64) := by show _ ≤ _; rw [HN.out, List.length_append, ← HL2.out]; simp; omega
        clear hown hchg
        go_wp2
        exact ⟨⟨m + 1, by omega, by go_num, hpush, HL6, HK6⟩, by simp [intOf]; omega⟩
    · have g1 : ¬ (us.length : Int) < 64 := by omega
      have HF : Hid (SH.primesB m = SH.primesL) := SH.primesB_full (by have := HL2.out; omega)
      have HR : Hid (SeqIn (w.heap.size ≤ ·) 88 IsU64 wr.heap (.slice pv us.length qv) SH.primesL) := by
        show SeqIn _ _ _ _ _ _
        rw [← HF.out]; exact hO.out.seq (by have := hL.out; omega)
      go_wp2
      go_ret
      exact ⟨_, rfl, HR.out, hK.out⟩
end Go.Proofs.Yteandjophamipaa
/- What a hash is in memory: its block, cell by cell. -/
namespace Go.Proofs.Yteandjophamipaa
open Go.RowKit
/-- Block b is a hash: its eight numbers, what is left, how many bytes, the roots' bits. -/
structure HashC (h : Array Obj) (b : Nat) (n : List Nat) (vr : Value) (tot : Nat) (vo : Value) : Prop where
  typ : typH h b = some 85
  now : ∀ i, i < 8 → cellH h b i = some (.int .u32 (n.getD i 0 : Int))
  rest : cellH h b 8 = some vr
  tot : cellH h b 9 = some (.int .i64 (tot : Int))
  roots : cellH h b 10 = some vo
  free : ∀ i, frozH h b i = false
section
variable {w w' : World} {b : Nat} {n : List Nat} {vr : Value} {tot : Nat} {vo : Value}
theorem HashC.lt {h : Array Obj} (c : HashC h b n vr tot vo) : b < h.size := typH_lt c.typ
theorem HashC.any {h : Array Obj} (c : HashC h b n vr tot vo) {i : Nat} (hi : i < 11) : ∃ v, cellH h b i = some v := by
  by_cases h1 : i < 8
  · exact ⟨_, c.now i h1⟩
  · by_cases h2 : i = 8
    · exact ⟨_, h2 ▸ c.rest⟩
    · by_cases h3 : i = 9
      · exact ⟨_, h3 ▸ c.tot⟩
      · exact ⟨_, (show i = 10 by omega) ▸ c.roots⟩
theorem HashC.chg {T : Nat → Prop} (c : HashC w.heap b n vr tot vo) (k : Chg T w w') (hT : ¬ T b) : HashC w'.heap b n vr tot vo :=
  ⟨typH_chg k c.typ hT, fun i hi => cellH_chg k (c.now i hi) hT, cellH_chg k c.rest hT, cellH_chg k c.tot hT, cellH_chg k c.roots hT, fun i => by rw [frozH_chg k c.lt hT]; exact c.free i⟩
theorem HashC.keeps (c : HashC w.heap b n vr tot vo) (k : Keeps w w') : HashC w'.heap b n vr tot vo := c.chg (T := fun _ => False) (Kept.any k) fun x => x
theorem HashC.al (c : HashC w.heap b n vr tot vo) (o : Obj) : HashC (w.alloc o).heap b n vr tot vo := c.keeps (kal w o)
theorem HashC.setNow (c : HashC w.heap b n vr tot vo) {i : Nat} (hi : i < 8) (hn : n.length = 8) (x : Nat) : HashC (w.setCell ⟨b, i, none⟩ (.int .u32 (x : Int))).heap b (n.set i x) vr tot vo := by
  have key := fun j => cellH_set w b i b j (.int .u32 (x : Int)) _ (c.now i hi)
  refine ⟨by rw [typH_set]; exact c.typ, fun j hj => ?_, ?_, ?_, ?_, fun j => by rw [frozH_set]; exact c.free j⟩
  · rw [key]
    by_cases e : i = j
    · subst e
      rw [if_pos ⟨rfl, rfl⟩, List.getD_eq_getElem?_getD, List.getElem?_set_self (by omega)]; rfl
    · rw [if_neg (fun x => e x.2), c.now j hj, List.getD_eq_getElem?_getD, List.getD_eq_getElem?_getD, List.getElem?_set_ne e]
  · rw [key, if_neg (by omega)]; exact c.rest
  · rw [key, if_neg (by omega)]; exact c.tot
  · rw [key, if_neg (by omega)]; exact c.roots
theorem HashC.setRest (c : HashC w.heap b n vr tot vo) (v : Value) : HashC (w.setCell ⟨b, 8, none⟩ v).heap b n v tot vo := by
  have key := fun j => cellH_set w b 8 b j v _ c.rest
  refine ⟨by rw [typH_set]; exact c.typ, fun j hj => ?_, ?_, ?_, ?_, fun j => by rw [frozH_set]; exact c.free j⟩
  · rw [key, if_neg (by omega)]; exact c.now j hj
  · rw [key, if_pos ⟨rfl, rfl⟩]
  · rw [key, if_neg (by omega)]; exact c.tot
  · rw [key, if_neg (by omega)]; exact c.roots
theorem HashC.setTot (c : HashC w.heap b n vr tot vo) (t : Nat) : HashC (w.setCell ⟨b, 9, none⟩ (.int .i64 (t : Int))).heap b n vr t vo := by
  have key := fun j => cellH_set w b 9 b j (.int .i64 (t : Int)) _ c.tot
  refine ⟨by rw [typH_set]; exact c.typ, fun j hj => ?_, ?_, ?_, ?_, fun j => by rw [frozH_set]; exact c.free j⟩
  · rw [key, if_neg (by omega)]; exact c.now j hj
  · rw [key, if_neg (by omega)]; exact c.rest
  · rw [key, if_pos ⟨rfl, rfl⟩]
  · rw [key, if_neg (by omega)]; exact c.roots
theorem HashC.setRoots (c : HashC w.heap b n vr tot vo) (v : Value) : HashC (w.setCell ⟨b, 10, none⟩ v).heap b n vr tot v := by
  have key := fun j => cellH_set w b 10 b j v _ c.roots
  refine ⟨by rw [typH_set]; exact c.typ, fun j hj => ?_, ?_, ?_, ?_, fun j => by rw [frozH_set]; exact c.free j⟩
  · rw [key, if_neg (by omega)]; exact c.now j hj
  · rw [key, if_neg (by omega)]; exact c.rest
  · rw [key, if_neg (by omega)]; exact c.tot
  · rw [key, if_pos ⟨rfl, rfl⟩]
end
theorem seqD {α : Type} {R : Value → α → Prop} {w : World} {p : Option Addr} {n c : Nat} {l : List α} (h : SeqAt R w.heap (.slice p n c) l) (d : α) {i : Nat} (hi : i < l.length) : ∃ b off u, p = some ⟨b, off, none⟩ ∧ w.cell? ⟨b, off + i, none⟩ = some u ∧ R u (l.getD i d) := by
  obtain ⟨b, off, c', u, e, c1, r1⟩ := seq_cell h hi
  injection e with e1 e2 e3
  refine ⟨b, off, u, e1, c1, ?_⟩
  rw [List.getD_eq_getElem?_getD, List.getElem?_eq_getElem hi, Option.getD_some]; exact r1
/-- A hash's cells, as a list. -/
def hashL (n : List Nat) (vr : Value) (tot : Nat) (vo : Value) : List Value := (n.map fun (x : Nat) => Value.int .u32 (x : Int)) ++ [vr, .int .i64 (tot : Int), vo]
theorem HashC.new (w : World) (n : List Nat) (hn : n.length = 8) (vr : Value) (tot : Nat) (vo : Value) : HashC (w.alloc (.cells ⟨hashL n vr tot vo⟩ 85)).heap w.heap.size n vr tot vo := by
  have hc : ∀ i, cellH (w.alloc (.cells ⟨hashL n vr tot vo⟩ 85)).heap w.heap.size i = (hashL n vr tot vo)[i]? := by
    intro i
    rw [← cell_of]
    exact (World.cell?_alloc_new w _ _ i).trans (by rw [← Array.getElem?_toList])
  have hl : (n.map fun (x : Nat) => Value.int .u32 (x : Int)).length = 8 := by rw [List.length_map, hn]
  have hi : ∀ k, (hashL n vr tot vo)[8 + k]? = ([vr, .int .i64 (tot : Int), vo] : List Value)[k]? := fun k => by
    unfold hashL
    rw [List.getElem?_append_right (by omega), hl]; congr 1; omega
  refine ⟨typH_new _ _ _, fun i h8 => ?_, ?_, ?_, ?_, fun i => ?_⟩
  · rw [hc]
    unfold hashL
    rw [List.getElem?_append_left (by omega), List.getElem?_map, List.getD_eq_getElem?_getD, List.getElem?_eq_getElem (by omega)]; rfl
  · rw [hc]; exact hi 0
  · rw [hc]; exact hi 1
  · rw [hc]; exact hi 2
  · rw [← froz_of]; exact World.frozen?_alloc_new w _ _ i
end Go.Proofs.Yteandjophamipaa
