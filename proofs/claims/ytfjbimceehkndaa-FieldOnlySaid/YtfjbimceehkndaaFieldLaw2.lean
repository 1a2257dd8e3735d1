/- The walks of the laws FieldPowers and FieldOnly. -/
import Derived.Test.YtfjbimceehkndaaFieldLaw
namespace Go.Proofs.Ytfjbimceehkndaa
open Go.RowKit

theorem tmod40 (n : Int) : -1099511627776 < n.tmod 1099511627776 ∧ n.tmod 1099511627776 < 1099511627776 := by
  have h1 := Int.tmod_lt_of_pos n (b := 1099511627776) (by decide)
  have h2 := Int.tmod_lt_of_pos (-n) (b := 1099511627776) (by decide)
  rw [Int.neg_tmod] at h2
  omega
theorem ex_sum (n m : Int) : FM.mul (FM.ex (n % 255).toNat) (FM.ex (m % 255).toNat) = FM.ex ((n + m) % 255).toNat := by
  rw [FM.mul_ex, ← FM.ex_mod]; congr 1; omega
theorem ex_neg (n : Int) : FM.mul (FM.ex (n % 255).toNat) (FM.ex (-n % 255).toNat) = 1 := by
  rw [ex_sum, show (n + -n) % 255 = 0 from by omega]; exact FM.ex_zero

set_option maxRecDepth 100000 in
set_option maxHeartbeats 2000000 in
theorem powers_any (n m x y : Int) (hx : 0 ≤ x ∧ x < 256) (hy : 0 ≤ y ∧ y < 256) (w : World) :
    Calls Try.prog 6 #[.int .i64 n, .int .i64 m, .int .u8 x, .int .u8 y] w fun e w' => e = .returned (.bool true) ∧ Keeps w w' := by
  obtain ⟨a, rfl⟩ := Int.eq_ofNat_of_zero_le hx.1
  obtain ⟨b, rfl⟩ := Int.eq_ofNat_of_zero_le hy.1
  have ha : a < 256 := by omega
  have hb : b < 256 := by omega
  have n1 := tmod40 n
  have m1 := tmod40 m
  have n2 : IntKind.i64.wrap (n.tmod 1099511627776) = n.tmod 1099511627776 := IntWalk.i64_in _ (by omega)
  have m2 : IntKind.i64.wrap (m.tmod 1099511627776) = m.tmod 1099511627776 := IntWalk.i64_in _ (by omega)
  have e1 := ex_sum (n.tmod 1099511627776) (m.tmod 1099511627776)
  have e2 := ex_neg (n.tmod 1099511627776)
  have b1 := FM.ex_lt (n.tmod 1099511627776 % 255).toNat
  have b2 := FM.ex_lt (m.tmod 1099511627776 % 255).toNat
  have b3 := FM.ex_lt (-n.tmod 1099511627776 % 255).toNat
  have b4 := FM.mul_lt a b
  have l1 := FM.lg_lt a
  have l2 := FM.lg_lt b
  by_cases a0 : a = 0
  · subst a0
    have z1 := FM.zero_mul b
    by_cases b0 : b = 0
    · subst b0
      go_enter Try.func6, Try.ntmps6
      go_wp2_with (first | (go_at_call 9; refine (new_any _).mono ?_; rintro e w1 ⟨rfl, hk, ht⟩) | (go_at_call 10; refine Calls.mono (inv_tab _ _ _ ht ?_) ?_; omega; rintro e w' ⟨rfl, n, rfl⟩) | (go_at_call 12; refine Calls.mono (log_tab _ _ _ ht ?_) ?_; omega; rintro e w' ⟨rfl, n, rfl⟩) | (go_at_call 15; refine Calls.mono (mul_tab _ _ _ _ ht ?_ ?_) ?_; omega; omega; rintro e w' ⟨rfl, n, rfl⟩) | (go_at_call 17; refine Calls.mono (exp_tab _ _ _ ht) ?_; rintro e w' ⟨rfl, rfl⟩) | (go_at_call 14; refine Calls.mono (add_any _ _ _ _ ?_ ?_) ?_; omega; omega; rintro e w' ⟨rfl, rfl⟩) | (go_at_call 19; refine (awake_any _).mono ?_; rintro e w2 ⟨rfl, hk2⟩; have ht := ht.keeps hk2; have hk := Keeps.trans hk hk2))
      go_ret
      exact ⟨rfl, hk⟩
    · go_enter Try.func6, Try.ntmps6
      go_wp2_with (first | (go_at_call 9; refine (new_any _).mono ?_; rintro e w1 ⟨rfl, hk, ht⟩) | (go_at_call 10; refine Calls.mono (inv_tab _ _ _ ht ?_) ?_; omega; rintro e w' ⟨rfl, n, rfl⟩) | (go_at_call 12; refine Calls.mono (log_tab _ _ _ ht ?_) ?_; omega; rintro e w' ⟨rfl, n, rfl⟩) | (go_at_call 15; refine Calls.mono (mul_tab _ _ _ _ ht ?_ ?_) ?_; omega; omega; rintro e w' ⟨rfl, n, rfl⟩) | (go_at_call 17; refine Calls.mono (exp_tab _ _ _ ht) ?_; rintro e w' ⟨rfl, rfl⟩) | (go_at_call 14; refine Calls.mono (add_any _ _ _ _ ?_ ?_) ?_; omega; omega; rintro e w' ⟨rfl, rfl⟩) | (go_at_call 19; refine (awake_any _).mono ?_; rintro e w2 ⟨rfl, hk2⟩; have ht := ht.keeps hk2; have hk := Keeps.trans hk hk2))
      go_ret
      exact ⟨rfl, hk⟩
  · have a1 : (((a : Nat) : Int) != 0) = true := by rw [bne_iff_ne]; omega
    have e3 : FM.ex (FM.lg a % 255) = a := by rw [Nat.mod_eq_of_lt l1]; exact FM.ex_lg (by omega) ha
    have e3' : FM.ex ((FM.lg a : Int) % 255).toNat = a := by rw [show ((FM.lg a : Int) % 255).toNat = FM.lg a % 255 from by omega]; exact e3
    by_cases b0 : b = 0
    · subst b0
      have z1 := FM.mul_zero a
      go_enter Try.func6, Try.ntmps6
      go_wp2_with (first | (go_at_call 9; refine (new_any _).mono ?_; rintro e w1 ⟨rfl, hk, ht⟩) | (go_at_call 10; refine Calls.mono (inv_tab _ _ _ ht ?_) ?_; omega; rintro e w' ⟨rfl, n, rfl⟩) | (go_at_call 12; refine Calls.mono (log_tab _ _ _ ht ?_) ?_; omega; rintro e w' ⟨rfl, n, rfl⟩) | (go_at_call 15; refine Calls.mono (mul_tab _ _ _ _ ht ?_ ?_) ?_; omega; omega; rintro e w' ⟨rfl, n, rfl⟩) | (go_at_call 17; refine Calls.mono (exp_tab _ _ _ ht) ?_; rintro e w' ⟨rfl, rfl⟩) | (go_at_call 14; refine Calls.mono (add_any _ _ _ _ ?_ ?_) ?_; omega; omega; rintro e w' ⟨rfl, rfl⟩) | (go_at_call 19; refine (awake_any _).mono ?_; rintro e w2 ⟨rfl, hk2⟩; have ht := ht.keeps hk2; have hk := Keeps.trans hk hk2))
      go_ret
      exact ⟨rfl, hk⟩
    · have e9 : ¬ FM.mul a b = 0 := by rw [FM.mul_eq_zero]; omega
      have e4 : ((FM.lg (FM.mul a b) : Nat) : Int) = ((FM.lg a : Int) + (FM.lg b : Int)) % 255 := by
        have : FM.mul a b = FM.ex (FM.lg a + FM.lg b) := by unfold FM.mul; rw [if_neg (by omega)]
        rw [this, FM.lg_ex]; omega
      go_enter Try.func6, Try.ntmps6
      go_wp2_with (first | (go_at_call 9; refine (new_any _).mono ?_; rintro e w1 ⟨rfl, hk, ht⟩) | (go_at_call 10; refine Calls.mono (inv_tab _ _ _ ht ?_) ?_; omega; rintro e w' ⟨rfl, n, rfl⟩) | (go_at_call 12; refine Calls.mono (log_tab _ _ _ ht ?_) ?_; omega; rintro e w' ⟨rfl, n, rfl⟩) | (go_at_call 15; refine Calls.mono (mul_tab _ _ _ _ ht ?_ ?_) ?_; omega; omega; rintro e w' ⟨rfl, n, rfl⟩) | (go_at_call 17; refine Calls.mono (exp_tab _ _ _ ht) ?_; rintro e w' ⟨rfl, rfl⟩) | (go_at_call 14; refine Calls.mono (add_any _ _ _ _ ?_ ?_) ?_; omega; omega; rintro e w' ⟨rfl, rfl⟩) | (go_at_call 19; refine (awake_any _).mono ?_; rintro e w2 ⟨rfl, hk2⟩; have ht := ht.keeps hk2; have hk := Keeps.trans hk hk2))
      go_ret
      exact ⟨rfl, hk⟩

set_option maxRecDepth 100000 in
set_option maxHeartbeats 2000000 in
theorem only_any (x y z : Int) (hx : 0 ≤ x ∧ x < 256) (hy : 0 ≤ y ∧ y < 256) (hz : 0 ≤ z ∧ z < 256) (w : World) :
    Calls Try.prog 8 #[.int .u8 x, .int .u8 y, .int .u8 z] w fun e w' => e = .returned (.bool true) ∧ Keeps w w' := by
  obtain ⟨a, rfl⟩ := Int.eq_ofNat_of_zero_le hx.1
  obtain ⟨b, rfl⟩ := Int.eq_ofNat_of_zero_le hy.1
  obtain ⟨c, rfl⟩ := Int.eq_ofNat_of_zero_le hz.1
  have ha : a < 256 := by omega
  have hb : b < 256 := by omega
  have hc : c < 256 := by omega
  have b1 := FM.mul_lt b (FM.inv a)
  have b6 := FM.inv_lt a
  by_cases a0 : a = 0
  · subst a0
    have z1 := FM.zero_mul c
    go_enter Try.func8, Try.ntmps8
    go_wp2_with (first | (go_at_call 9; refine (new_any _).mono ?_; rintro e w1 ⟨rfl, hk, ht⟩) | (go_at_call 10; refine Calls.mono (inv_tab _ _ _ ht ?_) ?_; omega; rintro e w' ⟨rfl, n, rfl⟩) | (go_at_call 12; refine Calls.mono (log_tab _ _ _ ht ?_) ?_; omega; rintro e w' ⟨rfl, n, rfl⟩) | (go_at_call 15; refine Calls.mono (mul_tab _ _ _ _ ht ?_ ?_) ?_; omega; omega; rintro e w' ⟨rfl, n, rfl⟩) | (go_at_call 17; refine Calls.mono (exp_tab _ _ _ ht) ?_; rintro e w' ⟨rfl, rfl⟩) | (go_at_call 14; refine Calls.mono (add_any _ _ _ _ ?_ ?_) ?_; omega; omega; rintro e w' ⟨rfl, rfl⟩) | (go_at_call 19; refine (awake_any _).mono ?_; rintro e w2 ⟨rfl, hk2⟩; have ht := ht.keeps hk2; have hk := Keeps.trans hk hk2))
    go_ret
    exact ⟨rfl, hk⟩
  · have e1 : FM.mul a (FM.mul b (FM.inv a)) = b := by
      rw [FM.mul_comm b, ← FM.mul_assoc ha (FM.inv_lt a) hb, FM.mul_inv (by omega) ha, FM.one_mul hb]
    by_cases c0 : c = FM.mul b (FM.inv a)
    · subst c0
      go_enter Try.func8, Try.ntmps8
      go_wp2_with (first | (go_at_call 9; refine (new_any _).mono ?_; rintro e w1 ⟨rfl, hk, ht⟩) | (go_at_call 10; refine Calls.mono (inv_tab _ _ _ ht ?_) ?_; omega; rintro e w' ⟨rfl, n, rfl⟩) | (go_at_call 12; refine Calls.mono (log_tab _ _ _ ht ?_) ?_; omega; rintro e w' ⟨rfl, n, rfl⟩) | (go_at_call 15; refine Calls.mono (mul_tab _ _ _ _ ht ?_ ?_) ?_; omega; omega; rintro e w' ⟨rfl, n, rfl⟩) | (go_at_call 17; refine Calls.mono (exp_tab _ _ _ ht) ?_; rintro e w' ⟨rfl, rfl⟩) | (go_at_call 14; refine Calls.mono (add_any _ _ _ _ ?_ ?_) ?_; omega; omega; rintro e w' ⟨rfl, rfl⟩) | (go_at_call 19; refine (awake_any _).mono ?_; rintro e w2 ⟨rfl, hk2⟩; have ht := ht.keeps hk2; have hk := Keeps.trans hk hk2))
      go_ret
      exact ⟨rfl, hk⟩
    · have e2 : ¬ FM.mul a c = b := fun h => c0 (FM.mul_left_inj (by omega) ha hc (FM.mul_lt _ _) (by rw [h, e1]))
      have g1 : (((FM.mul a c : Nat) : Int) == ((b : Nat) : Int)) = false := by rw [beq_eq_false_iff_ne]; omega
      have g2 : (((c : Nat) : Int) == ((FM.mul b (FM.inv a) : Nat) : Int)) = false := by rw [beq_eq_false_iff_ne]; omega
      go_enter Try.func8, Try.ntmps8
      go_wp2_with (first | (go_at_call 9; refine (new_any _).mono ?_; rintro e w1 ⟨rfl, hk, ht⟩) | (go_at_call 10; refine Calls.mono (inv_tab _ _ _ ht ?_) ?_; omega; rintro e w' ⟨rfl, n, rfl⟩) | (go_at_call 12; refine Calls.mono (log_tab _ _ _ ht ?_) ?_; omega; rintro e w' ⟨rfl, n, rfl⟩) | (go_at_call 15; refine Calls.mono (mul_tab _ _ _ _ ht ?_ ?_) ?_; omega; omega; rintro e w' ⟨rfl, n, rfl⟩) | (go_at_call 17; refine Calls.mono (exp_tab _ _ _ ht) ?_; rintro e w' ⟨rfl, rfl⟩) | (go_at_call 14; refine Calls.mono (add_any _ _ _ _ ?_ ?_) ?_; omega; omega; rintro e w' ⟨rfl, rfl⟩) | (go_at_call 19; refine (awake_any _).mono ?_; rintro e w2 ⟨rfl, hk2⟩; have ht := ht.keeps hk2; have hk := Keeps.trans hk hk2))
      go_ret
      exact ⟨rfl, hk⟩
end Go.Proofs.Ytfjbimceehkndaa
