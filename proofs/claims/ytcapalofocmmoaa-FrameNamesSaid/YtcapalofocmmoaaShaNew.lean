/- The walks that make the numbers of package sha: primes, their roots' bits. -/
import Derived.Test.YtcapalofocmmoaaShaTurn
import Derived.Test.YtcapalofocmmoaaShaRoot
import Derived.Test.YtcapalofocmmoaaShelf
namespace Go.Proofs.Ytcapalofocmmoaa
open Go.RowKit
set_option maxRecDepth 100000 in
set_option maxHeartbeats 1000000 in
theorem prime_any (n : Nat) (w : World) (h2 : 2 ≤ n) (hn : n < 1000) :
    Calls Try.prog 56 #[.int .u64 (n : Int)] w fun e w' => e = .returned (.bool (SH.primeB n)) ∧ w = w' := by
  go_enter Try.func56, Try.ntmps56
  go_wp2
  go_loop [3] (fun i => ∃ d : Nat, 2 ≤ d ∧ d ≤ n ∧ i = .int .u64 d ∧ Hid (∀ j, 2 ≤ j → j < d → n % j ≠ 0)) (fun i => n + 1 - (intOf i).toNat)
  case atStart => exact ⟨2, by omega, by omega, rfl, fun j _ _ => by omega⟩
  case round =>
    obtain ⟨d, hd2, hdn, rfl, hj⟩ := hrel
    have q1 : (d : Int) * (d : Int) ≤ 1000000 := by
      have : d * d ≤ 1000 * 1000 := Nat.mul_le_mul (by omega) (by omega)
      rw [← Int.natCast_mul]; omega
    have q0 : 0 ≤ (d : Int) * (d : Int) := by rw [← Int.natCast_mul]; omega
    by_cases hle : d * d ≤ n
    · have g1 : (d : Int) * (d : Int) ≤ (n : Int) := by rw [← Int.natCast_mul]; omega
      have hdl : d + 1 ≤ n := by
        have : d * 2 ≤ d * d := Nat.mul_le_mul_left d hd2
        omega
      by_cases hm : n % d = 0
      · have g2 : ((n : Int) % (d : Int) == 0) = true := by rw [beq_iff_eq, ← Int.natCast_emod, hm]; rfl
        have HR : Hid (SH.primeB n = false) := SH.primeB_no hd2 hle hm
        clear hm hle
        go_wp2
        go_ret
        exact ⟨by rw [HR.out] <;> rfl, rfl⟩
      · have g2 : ((n : Int) % (d : Int) == 0) = false := by rw [beq_eq_false_iff_ne, ← Int.natCast_emod]; omega
        have HN : Hid (∀ j, 2 ≤ j → j < d + 1 → n % j ≠ 0) := fun j h1 h2 => by
          by_cases e : j = d
          · subst e; exact hm
          · exact hj.out j h1 (by omega)
        clear hm hle
        go_wp2
        exact ⟨⟨d + 1, by omega, by omega, by go_num, HN⟩, by simp [intOf]; omega⟩
    · have g1 : ¬ ((d : Int) * (d : Int) ≤ (n : Int)) := by rw [← Int.natCast_mul]; omega
      have HR : Hid (SH.primeB n = true) := SH.primeB_yes (by omega) hj.out
      clear hle
      go_wp2
      go_ret
      exact ⟨by rw [HR.out] <;> rfl, rfl⟩
theorem ovr2 (n x : Nat) : SH.ovr n 2 x = (decide (n < x * x / 18446744073709551616) || (decide (x * x / 18446744073709551616 = n) && decide (0 < x * x % 18446744073709551616))) := by
  unfold SH.ovr
  have e : x ^ 2 = x * x := Nat.pow_two x
  rw [e, show 2 ^ (32 * 2) = 18446744073709551616 from rfl]
  generalize x * x = y
  rw [← Bool.decide_and, ← Bool.decide_or, decide_eq_decide]; omega
theorem ovr3 (n x : Nat) : SH.ovr n 3 x = (decide (n * 4294967296 < x * x % 18446744073709551616 * x / 18446744073709551616 + x * x / 18446744073709551616 * x) ||
    (decide (x * x % 18446744073709551616 * x / 18446744073709551616 + x * x / 18446744073709551616 * x = n * 4294967296) && decide (0 < x * x % 18446744073709551616 * x % 18446744073709551616))) := by
  unfold SH.ovr
  have e : x ^ 3 = 18446744073709551616 * (x * x / 18446744073709551616 * x) + x * x % 18446744073709551616 * x := by
    rw [← Nat.mul_assoc, ← Nat.add_mul, Nat.div_add_mod, Nat.pow_succ, Nat.pow_two]
  rw [e, show 2 ^ (32 * 3) = 4294967296 * 18446744073709551616 from rfl]
  generalize x * x / 18446744073709551616 * x = a
  generalize x * x % 18446744073709551616 * x = b
  rw [← Bool.decide_and, ← Bool.decide_or, decide_eq_decide]; omega
set_option maxRecDepth 100000 in
set_option maxHeartbeats 1000000 in
theorem over2_walk (x n H L : Nat) (w : World) (r : Bool) (_hn : n < 1000)
    (HM : Hid (Calls Try.prog 70 #[.int .u64 (x : Int), .int .u64 (x : Int)] w fun e w' => e = .returned (.tuple #[.int .u64 (H : Int), .int .u64 (L : Int)]) ∧ w' = w))
    (hr : (decide (n < H) = true ∧ r = true) ∨ (decide (n < H) = false ∧ ((H : Int) == (n : Int)) = true ∧ decide (0 < L) = r) ∨ (decide (n < H) = false ∧ ((H : Int) == (n : Int)) = false ∧ r = false)) :
    Calls Try.prog 57 #[.int .u64 (x : Int), .int .u64 (n : Int), .bool false] w fun e w' => e = .returned (.bool r) ∧ w = w' := by
  rcases hr with ⟨g1, rfl⟩ | ⟨g1, g2, g3⟩ | ⟨g1, g2, rfl⟩
  all_goals
    go_enter Try.func57, Try.ntmps57
    go_wp2_with fail
    refine Calls.mono HM.out ?_
    rintro e w' ⟨rfl, rfl⟩
    go_wp2
    go_ret
    exact ⟨rfl, rfl⟩
theorem over2_any (x n : Nat) (w : World) (hx : x < 68719476736) (hn : n < 1000) :
    Calls Try.prog 57 #[.int .u64 (x : Int), .int .u64 (n : Int), .bool false] w fun e w' => e = .returned (.bool (SH.ovr n 2 x)) ∧ w = w' := by
  have HM := Lib.hid (Sh.bits_Mul64 x x (by omega) (by omega) w)
  refine over2_walk x n _ _ w _ hn HM ?_
  rw [ovr2]
  generalize x * x / 18446744073709551616 = H
  generalize x * x % 18446744073709551616 = L
  by_cases h1 : n < H
  · exact .inl ⟨decide_eq_true h1, by rw [decide_eq_true h1]; rfl⟩
  · by_cases h2 : H = n
    · exact .inr (.inl ⟨decide_eq_false h1, by rw [beq_iff_eq]; omega, by rw [decide_eq_false h1, decide_eq_true h2]; rfl⟩)
    · exact .inr (.inr ⟨decide_eq_false h1, by rw [beq_eq_false_iff_ne]; omega, by rw [decide_eq_false h1, decide_eq_false h2]; rfl⟩)
set_option maxRecDepth 100000 in
set_option maxHeartbeats 1000000 in
theorem over3_walk (x n H L T B : Nat) (w : World) (r : Bool) (_hn : n < 1000) (_i0 : 0 ≤ (H : Int) * (x : Int)) (_i1 : (H : Int) * (x : Int) ≤ 17523466567680) (_i2 : T ≤ 68719476736)
    (HM : Hid (Calls Try.prog 70 #[.int .u64 (x : Int), .int .u64 (x : Int)] w fun e w' => e = .returned (.tuple #[.int .u64 (H : Int), .int .u64 (L : Int)]) ∧ w' = w))
    (HM2 : Hid (Calls Try.prog 70 #[.int .u64 (L : Int), .int .u64 (x : Int)] w fun e w' => e = .returned (.tuple #[.int .u64 (T : Int), .int .u64 (B : Int)]) ∧ w' = w))
    (hr : (decide ((n : Int) * 4294967296 < (T : Int) + (H : Int) * (x : Int)) = true ∧ r = true) ∨ (decide ((n : Int) * 4294967296 < (T : Int) + (H : Int) * (x : Int)) = false ∧ ((T : Int) + (H : Int) * (x : Int) == (n : Int) * 4294967296) = true ∧ decide (0 < B) = r) ∨
      (decide ((n : Int) * 4294967296 < (T : Int) + (H : Int) * (x : Int)) = false ∧ ((T : Int) + (H : Int) * (x : Int) == (n : Int) * 4294967296) = false ∧ r = false)) :
    Calls Try.prog 57 #[.int .u64 (x : Int), .int .u64 (n : Int), .bool true] w fun e w' => e = .returned (.bool r) ∧ w = w' := by
  rcases hr with ⟨g1, rfl⟩ | ⟨g1, g2, g3⟩ | ⟨g1, g2, rfl⟩
  all_goals
    go_enter Try.func57, Try.ntmps57
    go_wp2_with fail
    refine Calls.mono HM.out ?_
    rintro e w' ⟨rfl, rfl⟩
    go_wp2_with fail
    refine Calls.mono HM2.out ?_
    rintro e w' ⟨rfl, rfl⟩
    go_wp2
    go_ret
    exact ⟨rfl, rfl⟩
theorem over3_cases (n a B : Nat) (A : Int) (hA : A = (a : Int)) (r : Bool) (hr : r = (decide (n * 4294967296 < a) || (decide (a = n * 4294967296) && decide (0 < B)))) :
    (decide ((n : Int) * 4294967296 < A) = true ∧ r = true) ∨ (decide ((n : Int) * 4294967296 < A) = false ∧ (A == (n : Int) * 4294967296) = true ∧ decide (0 < B) = r) ∨
      (decide ((n : Int) * 4294967296 < A) = false ∧ (A == (n : Int) * 4294967296) = false ∧ r = false) := by
  subst hA hr
  by_cases h1 : n * 4294967296 < a
  · exact .inl ⟨decide_eq_true (by omega), by rw [decide_eq_true h1]; rfl⟩
  · by_cases h2 : a = n * 4294967296
    · exact .inr (.inl ⟨decide_eq_false (by omega), by rw [beq_iff_eq]; omega, by rw [decide_eq_false h1, decide_eq_true h2]; rfl⟩)
    · exact .inr (.inr ⟨decide_eq_false (by omega), by rw [beq_eq_false_iff_ne]; omega, by rw [decide_eq_false h1, decide_eq_false h2]; rfl⟩)
theorem over3_size (x : Nat) (hx : x < 68719476736) : x * x / 18446744073709551616 * x ≤ 17523466567680 ∧ x * x % 18446744073709551616 < 18446744073709551616 ∧ x * x % 18446744073709551616 * x / 18446744073709551616 ≤ 68719476736 := by
  have hxx : x * x ≤ 68719476736 * 68719476736 := Nat.mul_le_mul (by omega) (by omega)
  have hL : x * x % 18446744073709551616 < 18446744073709551616 := Nat.mod_lt _ (by decide)
  have hH : x * x / 18446744073709551616 ≤ 256 := by omega
  have hLx : x * x % 18446744073709551616 * x ≤ 18446744073709551616 * x := Nat.mul_le_mul_right x (by omega)
  refine ⟨?_, hL, by omega⟩
  have hH2 : x * x / 18446744073709551616 ≤ 255 := by
    have : x * x ≤ 68719476735 * 68719476735 := Nat.mul_le_mul (by omega) (by omega)
    omega
  have := Nat.mul_le_mul hH2 (show x ≤ 68719476735 by omega)
  omega
theorem over3_any (x n : Nat) (w : World) (hx : x < 68719476736) (hn : n < 1000) :
    Calls Try.prog 57 #[.int .u64 (x : Int), .int .u64 (n : Int), .bool true] w fun e w' => e = .returned (.bool (SH.ovr n 3 x)) ∧ w = w' := by
  obtain ⟨h1, h2, h3⟩ := over3_size x hx
  refine over3_walk x n _ _ _ _ w _ hn ?_ ?_ h3 (Lib.hid (Sh.bits_Mul64 x x (by omega) (by omega) w)) (Lib.hid (Sh.bits_Mul64 _ x h2 (by omega) w)) ?_
  · rw [← Int.natCast_mul]; omega
  · rw [← Int.natCast_mul]; omega
  · have h4 := ovr3 n x
    generalize x * x / 18446744073709551616 = H at *
    generalize x * x % 18446744073709551616 = L at *
    generalize L * x / 18446744073709551616 = T at *
    generalize L * x % 18446744073709551616 = B at *
    exact over3_cases n (T + H * x) B _ (by rw [Int.natCast_add, Int.natCast_mul]) _ h4
theorem or_u64 (a b : Nat) (ha : a < 18446744073709551616) (hb : b < 18446744073709551616) : bits .or .u64 (a : Int) (b : Int) = ((a ||| b : Nat) : Int) := by
  refine bits_nat .or .u64 a b _ ha hb (· ||| ·) (fun x y => BitVec.toNat_or x y) rfl ?_
  have := Nat.or_lt_two_pow (n := 64) ha hb
  exact IntWalk.u64_in _ (by omega)
theorem grd_mod {P : Nat → Bool} {j x : Nat} (h : x % 2 ^ (j + 1) = 0) : (if P (x + 2 ^ j) then x else x + 2 ^ j) % 2 ^ j = 0 := by
  have h1 : x % 2 ^ j = 0 := by
    obtain ⟨q, rfl⟩ := Nat.dvd_of_mod_eq_zero h
    rw [Nat.pow_succ, Nat.mul_assoc]; exact Nat.mul_mod_right _ _
  split
  · exact h1
  · rw [Nat.add_mod, h1]; simp
theorem pow36 {j : Nat} (h : j < 36) : 2 ^ j ≤ 34359738368 := by
  have := Nat.pow_le_pow_right (n := 2) (by omega) (show j ≤ 35 by omega)
  exact this
theorem bit_top {j x : Nat} (hj : j < 36) (h : x % 2 ^ (j + 1) = 0) (hx : x < 68719476736) : x + 2 ^ j < 68719476736 := by
  obtain ⟨q, rfl⟩ := Nat.dvd_of_mod_eq_zero h
  have e : 68719476736 = 2 ^ (j + 1) * 2 ^ (35 - j) := by rw [← Nat.pow_add, show j + 1 + (35 - j) = 36 from by omega]
  have hq : q < 2 ^ (35 - j) := by
    rw [e] at hx
    exact Nat.lt_of_mul_lt_mul_left hx
  have h2 : 2 ^ (j + 1) * (q + 1) ≤ 68719476736 := by rw [e]; exact Nat.mul_le_mul_left _ hq
  rw [Nat.mul_add, Nat.mul_one, Nat.pow_succ] at h2
  have := Nat.two_pow_pos j
  rw [Nat.pow_succ]; omega
theorem int_pow (j : Nat) : ((2 ^ j : Nat) : Int) = (2 : Int) ^ j := by rw [Int.natCast_pow]; rfl
/-- 'x | 1<<b' as the walk writes it. -/
theorem or_shift {j x : Nat} (hj : j < 36) (h : x % 2 ^ (j + 1) = 0) (hx : x < 68719476736) : bits .or .u64 (x : Int) (IntKind.u64.wrap ((2 : Int) ^ j)) = ((x + 2 ^ j : Nat) : Int) := by
  have h1 := pow36 hj
  rw [← int_pow, IntWalk.u64_in _ (by omega), or_u64 _ _ (by omega) (by omega), SH.or_bit h]
set_option maxRecDepth 100000 in
set_option maxHeartbeats 1000000 in
theorem rootbits_any (n k : Nat) (c : Bool) (w : World) (hn : n < 1000)
    (ho : Hid (∀ (x : Nat) (w : World), x < 68719476736 → Calls Try.prog 57 #[.int .u64 (x : Int), .int .u64 (n : Int), .bool c] w fun e w' => e = .returned (.bool (SH.ovr n k x)) ∧ w = w')) :
    Calls Try.prog 38 #[.int .u64 (n : Int), .bool c] w fun e w' => e = .returned (.int .u32 (SH.rootL n k : Int)) ∧ w = w' := by
  go_enter Try.func38, Try.ntmps38
  go_wp2
  go_loop [5, 6] (fun x b => ∃ (j m : Nat), j ≤ 36 ∧ b = .int .i64 ((j : Int) - 1) ∧ x = .int .u64 (m : Int) ∧ Hid (m % 2 ^ j = 0) ∧ m < 68719476736 ∧ Hid (SH.grd (SH.ovr n k) j m = SH.grd (SH.ovr n k) 36 0)) (fun _ b => (intOf b + 1).toNat)
  case atStart => exact ⟨36, 0, by omega, rfl, rfl, rfl, by omega, rfl⟩
  case round =>
    obtain ⟨j, m, hj, rfl, rfl, h1, h2, h3⟩ := hrel
    cases j with
    | zero =>
      have HE : Hid ((m : Int) % 4294967296 = (SH.rootL n k : Int)) := by
        have e : m = SH.grd (SH.ovr n k) 36 0 := h3.out
        show _ = _
        unfold SH.rootL; rw [← e]; omega
      go_wp2
      go_ret
      exact ⟨ret_int HE.out, rfl⟩
    | succ j =>
      have HO := Lib.hid (or_shift (by omega) h1.out h2)
      have h4 := bit_top (by omega) h1.out h2
      have HM := Lib.hid (grd_mod (P := SH.ovr n k) h1.out)
      have HG : Hid (SH.grd (SH.ovr n k) j (if SH.ovr n k (m + 2 ^ j) = true then m else m + 2 ^ j) = SH.grd (SH.ovr n k) 36 0) := h3.out
      have HC := Lib.hid (ho.out (m + 2 ^ j) w h4)
      clear h1 h3 ho
      go_wp2_with fail
      rw [HO.out]
      generalize m + 2 ^ j = m2 at *
      refine Calls.mono HC.out ?_
      rintro e w' ⟨rfl, rfl⟩
      cases hp : SH.ovr n k m2 with
      | true =>
        rw [hp] at HM HG
        go_wp2
        exact ⟨⟨j, m, by omega, by go_num, rfl, HM, h2, HG⟩, by simp [intOf]⟩
      | false =>
        rw [hp] at HM HG
        go_wp2
        exact ⟨⟨j, m2, by omega, by go_num, rfl, HM, h4, HG⟩, by simp [intOf]⟩
theorem root2_any (n : Nat) (w : World) (hn : n < 1000) : Calls Try.prog 38 #[.int .u64 (n : Int), .bool false] w fun e w' => e = .returned (.int .u32 (SH.rootL n 2 : Int)) ∧ w = w' :=
  rootbits_any n 2 false w hn (Lib.hid fun (x : Nat) (w : World) hx => over2_any x n w hx hn)
theorem root3_any (n : Nat) (w : World) (hn : n < 1000) : Calls Try.prog 38 #[.int .u64 (n : Int), .bool true] w fun e w' => e = .returned (.int .u32 (SH.rootL n 3 : Int)) ∧ w = w' :=
  rootbits_any n 3 true w hn (Lib.hid fun (x : Nat) (w : World) hx => over3_any x n w hx hn)
end Go.Proofs.Ytcapalofocmmoaa
