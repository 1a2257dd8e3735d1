/- The walk of the law CodeLengths. -/
import Derived.Test.YtllfhaocdknejaaDoorCodeWk
namespace Go.Proofs.YtllfhaocdknejaaDoor
open Go.RowKit
attribute [local go_sem ↓] Go.wp_at_zero Go.wp_at_succ
theorem sizeC_cases (k n len : Int) : (∃ r : Int, r ≠ 0 ∧ sizeC k n len = (0, r)) ∨ ∃ K m : Nat, k = (K : Int) ∧ 1 ≤ K ∧ K ≤ 12 ∧ len = (m : Int) ∧ m ≤ 32768 ∧ sizeC k n len = (((sizeN K m : Nat) : Int), 0) := by
  cases hb : codeB k n with
  | false => exact .inl ⟨1, by decide, sizeC_bad hb⟩
  | true =>
    by_cases h0 : len < 0
    · exact .inl ⟨1, by decide, sizeC_neg h0⟩
    · by_cases h1 : 32768 < len
      · exact .inl ⟨40, by decide, sizeC_big hb h1⟩
      · obtain ⟨g1, g2, g3⟩ := codeB_true.1 hb
        obtain ⟨K, rfl⟩ := Int.eq_ofNat_of_zero_le (show 0 ≤ k by omega)
        obtain ⟨m, rfl⟩ := Int.eq_ofNat_of_zero_le (show 0 ≤ len by omega)
        exact .inr ⟨K, m, rfl, by omega, by omega, rfl, by omega, sizeC_yes hb (by omega)⟩
theorem sizeN_mono {K m n : Nat} (h : m ≤ n) : sizeN K m ≤ sizeN K n := by
  unfold sizeN; exact Nat.div_le_div_right (by omega)
theorem len_arith {K m : Nat} (hK : 1 ≤ K) (hK2 : K ≤ 12) (hm : m ≤ 32768) : ∃ p a1 p1 : Nat, wrap64 ((K : Int) * ((sizeN K m : Nat) : Int)) = (p : Int) ∧ wrap64 ((m : Int) + 8) = (m : Int) + 8 ∧ wrap64 (((sizeN K m : Nat) : Int) - 1) = (a1 : Int) ∧ wrap64 ((K : Int) * (a1 : Int)) = (p1 : Int) ∧ m + 8 ≤ p ∧ p1 < m + 8 := by
  have h := sizeN_mul (m := m) hK
  have h1 := sizeN_pos (m := m) hK
  have h2 := sizeN_le (m := m) hK
  generalize sizeN K m = a at *
  obtain ⟨b, rfl⟩ : ∃ b, a = b + 1 := ⟨a - 1, by omega⟩
  have e : (b + 1) * K = b * K + K := by rw [Nat.add_mul, Nat.one_mul]
  rw [e] at h
  refine ⟨b * K + K, b, b * K, ?_, ?_, ?_, ?_, by omega, by omega⟩
  · rw [← Int.natCast_mul, Nat.mul_comm, e, IntWalk.wrap64_in _ (by omega)]
  · exact IntWalk.wrap64_in _ (by omega)
  · rw [IntWalk.wrap64_in _ (by omega)]; omega
  · rw [← Int.natCast_mul, Nat.mul_comm, IntWalk.wrap64_in _ (by omega)]
set_option maxRecDepth 100000 in
set_option maxHeartbeats 4000000 in
theorem clengths_any (k n x y : Int) (w : World) (hx : -9223372036854775808 ≤ x ∧ x ≤ 9223372036854775807) (hy : -9223372036854775808 ≤ y ∧ y ≤ 9223372036854775807) :
    Calls Tryd.prog 5 #[.agg #[.int .i64 k, .int .i64 n], .int .i64 x, .int .i64 y] w fun e w' => e = .returned (.bool true) ∧ Keeps w w' := by
  have HC0 : Hid (∀ wx, Keeps (w.alloc (.cells #[.int .i64 k, .int .i64 n] 23)) wx → wx.cell? ⟨w.heap.size, 0, none⟩ = some (.int .i64 k) ∧ wx.cell? ⟨w.heap.size, 1, none⟩ = some (.int .i64 n)) := fun wx hx => ⟨keeps_cell hx (World.cell?_alloc_new _ _ _ _), keeps_cell hx (World.cell?_alloc_new _ _ _ _)⟩
  have HX := Lib.hid hx
  have HY := Lib.hid hy
  have HSX := Lib.hid (fun wx => csize_any k n x wx hx.2 hx.1)
  have HSY := Lib.hid (fun wx => csize_any k n y wx hy.2 hy.1)
  clear hx hy
  rcases sizeC_cases k n x with ⟨r, hr, ex⟩ | ⟨K, a, rfl, hK1, hK2, rfl, ha, ex⟩
  · have HR : Hid (∀ wx, Calls Tryd.prog 15 #[.agg #[.int .i64 k, .int .i64 n], .int .i64 x] wx fun e w' => e = .returned (.tuple #[.int .i64 0, .int .i64 r]) ∧ Keeps wx w') := fun wx => by have := HSX.out wx; rw [ex] at this; exact this
    rcases sizeC_cases k n y with ⟨s, hs, ey⟩ | ⟨K, b, rfl, _, _, rfl, _, ey⟩
    · have HS : Hid (∀ wx, Calls Tryd.prog 15 #[.agg #[.int .i64 k, .int .i64 n], .int .i64 y] wx fun e w' => e = .returned (.tuple #[.int .i64 0, .int .i64 s]) ∧ Keeps wx w') := fun wx => by have := HSY.out wx; rw [ey] at this; exact this
      have h1 : (r != 0) = true := bne_iff_ne.2 hr
      have h2 : (r == 0) = false := beq_eq_false_iff_ne.2 hr
      have h3 : (s == 0) = false := beq_eq_false_iff_ne.2 hs
      clear ex ey
      go_enter Tryd.func5, Tryd.ntmps5
      go_wp2_with fail
      refine Calls.mono (works_any _) ?_
      rintro e w1 ⟨rfl, hk⟩
      have HK1 := Lib.hid hk
      obtain ⟨c0, c1⟩ := HC0.out _ hk
      clear hk
      go_wp2_with fail
      refine Calls.mono (HR.out _) ?_
      rintro e w2 ⟨rfl, hk⟩
      have HK2 := Lib.hid (HK1.out.trans hk)
      obtain ⟨c0, c1⟩ := HC0.out _ HK2.out
      clear hk
      go_wp2_with fail
      refine Calls.mono (HS.out _) ?_
      rintro e w3 ⟨rfl, hk⟩
      have HK3 := Lib.hid (HK2.out.trans hk)
      clear hk
      go_wp2_with fail
      go_ret
      exact ⟨rfl, (kal w _).trans HK3.out⟩
    · have HS : Hid (∀ wx, Calls Tryd.prog 15 #[.agg #[.int .i64 (K : Int), .int .i64 n], .int .i64 (b : Int)] wx fun e w' => e = .returned (.tuple #[.int .i64 ((sizeN K b : Nat) : Int), .int .i64 0]) ∧ Keeps wx w') := fun wx => by have := HSY.out wx; rw [ey] at this; exact this
      have h1 : (r != 0) = true := bne_iff_ne.2 hr
      have h2 : (r == 0) = false := beq_eq_false_iff_ne.2 hr
      clear ex ey
      generalize sizeN K b = sb at *
      go_enter Tryd.func5, Tryd.ntmps5
      go_wp2_with fail
      refine Calls.mono (works_any _) ?_
      rintro e w1 ⟨rfl, hk⟩
      have HK1 := Lib.hid hk
      obtain ⟨c0, c1⟩ := HC0.out _ hk
      clear hk
      go_wp2_with fail
      refine Calls.mono (HR.out _) ?_
      rintro e w2 ⟨rfl, hk⟩
      have HK2 := Lib.hid (HK1.out.trans hk)
      obtain ⟨c0, c1⟩ := HC0.out _ HK2.out
      clear hk
      go_wp2_with fail
      refine Calls.mono (HS.out _) ?_
      rintro e w3 ⟨rfl, hk⟩
      have HK3 := Lib.hid (HK2.out.trans hk)
      clear hk
      go_wp2_with fail
      go_ret
      exact ⟨rfl, (kal w _).trans HK3.out⟩
  · have HR : Hid (∀ wx, Calls Tryd.prog 15 #[.agg #[.int .i64 (K : Int), .int .i64 n], .int .i64 (a : Int)] wx fun e w' => e = .returned (.tuple #[.int .i64 ((sizeN K a : Nat) : Int), .int .i64 0]) ∧ Keeps wx w') := fun wx => by have := HSX.out wx; rw [ex] at this; exact this
    rcases sizeC_cases (K : Int) n y with ⟨s, hs, ey⟩ | ⟨K', b, hKK, _, _, rfl, hb, ey⟩
    · have HS : Hid (∀ wx, Calls Tryd.prog 15 #[.agg #[.int .i64 (K : Int), .int .i64 n], .int .i64 y] wx fun e w' => e = .returned (.tuple #[.int .i64 0, .int .i64 s]) ∧ Keeps wx w') := fun wx => by have := HSY.out wx; rw [ey] at this; exact this
      have h1 : (s != 0) = true := bne_iff_ne.2 hs
      have h3 : (s == 0) = false := beq_eq_false_iff_ne.2 hs
      clear ex ey
      generalize sizeN K a = sa at *
      go_enter Tryd.func5, Tryd.ntmps5
      go_wp2_with fail
      refine Calls.mono (works_any _) ?_
      rintro e w1 ⟨rfl, hk⟩
      have HK1 := Lib.hid hk
      obtain ⟨c0, c1⟩ := HC0.out _ hk
      clear hk
      go_wp2_with fail
      refine Calls.mono (HR.out _) ?_
      rintro e w2 ⟨rfl, hk⟩
      have HK2 := Lib.hid (HK1.out.trans hk)
      obtain ⟨c0, c1⟩ := HC0.out _ HK2.out
      clear hk
      go_wp2_with fail
      refine Calls.mono (HS.out _) ?_
      rintro e w3 ⟨rfl, hk⟩
      have HK3 := Lib.hid (HK2.out.trans hk)
      clear hk
      go_wp2_with fail
      go_ret
      exact ⟨rfl, (kal w _).trans HK3.out⟩
    · obtain rfl : K' = K := by omega
      have HS : Hid (∀ wx, Calls Tryd.prog 15 #[.agg #[.int .i64 (K' : Int), .int .i64 n], .int .i64 (b : Int)] wx fun e w' => e = .returned (.tuple #[.int .i64 ((sizeN K' b : Nat) : Int), .int .i64 0]) ∧ Keeps wx w') := fun wx => by have := HSY.out wx; rw [ey] at this; exact this
      obtain ⟨p, a1, p1, e1, e2, e3, e4, f1, f2⟩ := len_arith hK1 hK2 ha
      have g1 : (a : Int) + 8 ≤ (p : Int) := by omega
      have g2 : (p1 : Int) < (a : Int) + 8 := by omega
      have g3 : ¬ (a : Int) + 8 ≤ (p1 : Int) := by omega
      have HMO : Hid ((a ≤ b → sizeN K' a ≤ sizeN K' b) ∧ (b ≤ a → sizeN K' b ≤ sizeN K' a)) := ⟨sizeN_mono, sizeN_mono⟩
      clear ex ey hKK
      generalize sizeN K' a = sa at *
      generalize sizeN K' b = sb at *
      rcases Nat.lt_trichotomy a b with ht | ht | ht
      all_goals
        have q1 : (a < b) ∨ (a = b) ∨ b < a := by omega
        first
          | (have t1 : (a : Int) < (b : Int) := by omega
             have t2 : ¬ (b : Int) < (a : Int) := by omega
             have t3 := HMO.out.1 (by omega)
             have t4 : (sa : Int) ≤ (sb : Int) := by omega)
          | (have t1 : (b : Int) < (a : Int) := by omega
             have t2 : ¬ (a : Int) < (b : Int) := by omega
             have t3 := HMO.out.2 (by omega)
             have t4 : (sb : Int) ≤ (sa : Int) := by omega)
          | (have t1 : ¬ (b : Int) < (a : Int) := by omega
             have t2 : ¬ (a : Int) < (b : Int) := by omega
             have t3 := HMO.out.2 (by omega)
             have t4 : (sb : Int) ≤ (sa : Int) := by omega
             have t5 := HMO.out.1 (by omega)
             have t6 : (sa : Int) ≤ (sb : Int) := by omega)
        clear q1 ht
        go_enter Tryd.func5, Tryd.ntmps5
        go_wp2_with fail
        refine Calls.mono (works_any _) ?_
        rintro e w1 ⟨rfl, hk⟩
        have HK1 := Lib.hid hk
        obtain ⟨c0, c1⟩ := HC0.out _ hk
        clear hk
        go_wp2_with fail
        refine Calls.mono (HR.out _) ?_
        rintro e w2 ⟨rfl, hk⟩
        have HK2 := Lib.hid (HK1.out.trans hk)
        obtain ⟨c0, c1⟩ := HC0.out _ HK2.out
        clear hk
        go_wp2_with fail
        refine Calls.mono (HS.out _) ?_
        rintro e w3 ⟨rfl, hk⟩
        have HK3 := Lib.hid (HK2.out.trans hk)
        obtain ⟨c0, c1⟩ := HC0.out _ HK3.out
        clear hk
        go_wp2_with fail
        go_ret
        exact ⟨rfl, (kal w _).trans HK3.out⟩
end Go.Proofs.YtllfhaocdknejaaDoor
