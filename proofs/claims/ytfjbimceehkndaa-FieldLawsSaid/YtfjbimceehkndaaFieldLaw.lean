/- The walks of the field's laws that ask no reference: they return true and keep all that was there. -/
import Derived.Test.YtfjbimceehkndaaFieldX
namespace Go.Proofs.Ytfjbimceehkndaa
open Go.RowKit

set_option maxHeartbeats 1000000 in
theorem awake_any (w : World) :
    Calls Try.prog 19 #[] w fun e w' => e = .returned (.bool true) ∧ Keeps w w' := by
  have k1 : FM.inv 2 = 142 := by decide
  have k2 : FM.lg 29 = 8 := by decide
  have k3 : FM.mul 2 128 = 29 := by decide
  have k4 : FM.ex 8 = 29 := by decide
  go_enter Try.func19, Try.ntmps19
  go_wp2_with (first | (go_at_call 9; refine (new_any _).mono ?_; rintro e w1 ⟨rfl, hk, ht⟩) | (go_at_call 10; refine Calls.mono (inv_tab _ _ _ ht ?_) ?_; omega; rintro e w' ⟨rfl, n, rfl⟩) | (go_at_call 12; refine Calls.mono (log_tab _ _ _ ht ?_) ?_; omega; rintro e w' ⟨rfl, n, rfl⟩) | (go_at_call 15; refine Calls.mono (mul_tab _ _ _ _ ht ?_ ?_) ?_; omega; omega; rintro e w' ⟨rfl, n, rfl⟩) | (go_at_call 17; refine Calls.mono (exp_tab _ _ _ ht) ?_; rintro e w' ⟨rfl, rfl⟩) | (go_at_call 14; refine Calls.mono (add_any _ _ _ _ ?_ ?_) ?_; omega; omega; rintro e w' ⟨rfl, rfl⟩))
  go_ret
  exact ⟨rfl, hk⟩

set_option maxRecDepth 100000 in
set_option maxHeartbeats 2000000 in
theorem laws_any (x y z : Int) (hx : 0 ≤ x ∧ x < 256) (hy : 0 ≤ y ∧ y < 256) (hz : 0 ≤ z ∧ z < 256) (w : World) :
    Calls Try.prog 5 #[.int .u8 x, .int .u8 y, .int .u8 z] w fun e w' => e = .returned (.bool true) ∧ Keeps w w' := by
  obtain ⟨a, rfl⟩ := Int.eq_ofNat_of_zero_le hx.1
  obtain ⟨b, rfl⟩ := Int.eq_ofNat_of_zero_le hy.1
  obtain ⟨c, rfl⟩ := Int.eq_ofNat_of_zero_le hz.1
  have ha : a < 256 := by omega
  have hb : b < 256 := by omega
  have hc : c < 256 := by omega
  have e1 : b ^^^ a = a ^^^ b := Nat.xor_comm b a
  have e2 : FM.mul b a = FM.mul a b := FM.mul_comm b a
  have e3 : a ^^^ b ^^^ c = a ^^^ (b ^^^ c) := Nat.xor_assoc a b c
  have e4 : FM.mul (FM.mul a b) c = FM.mul a (FM.mul b c) := FM.mul_assoc ha hb hc
  have e5 : FM.mul a (b ^^^ c) = FM.mul a b ^^^ FM.mul a c := FM.mul_xor ha hb hc
  have e6 : FM.mul a 1 = a := FM.mul_one ha
  have e7 : FM.mul a 0 = 0 := FM.mul_zero a
  have b1 := FM.xor_lt ha hb
  have b2 := FM.xor_lt hb hc
  have b3 := FM.mul_lt a b
  have b4 := FM.mul_lt b c
  have b5 := FM.mul_lt a c
  have b6 := FM.inv_lt a
  by_cases a0 : a = 0
  · subst a0
    have z1 := FM.zero_mul b
    go_enter Try.func5, Try.ntmps5
    go_wp2_with (first | (go_at_call 9; refine (new_any _).mono ?_; rintro e w1 ⟨rfl, hk, ht⟩) | (go_at_call 10; refine Calls.mono (inv_tab _ _ _ ht ?_) ?_; omega; rintro e w' ⟨rfl, n, rfl⟩) | (go_at_call 12; refine Calls.mono (log_tab _ _ _ ht ?_) ?_; omega; rintro e w' ⟨rfl, n, rfl⟩) | (go_at_call 15; refine Calls.mono (mul_tab _ _ _ _ ht ?_ ?_) ?_; omega; omega; rintro e w' ⟨rfl, n, rfl⟩) | (go_at_call 17; refine Calls.mono (exp_tab _ _ _ ht) ?_; rintro e w' ⟨rfl, rfl⟩) | (go_at_call 14; refine Calls.mono (add_any _ _ _ _ ?_ ?_) ?_; omega; omega; rintro e w' ⟨rfl, rfl⟩) | (go_at_call 19; refine (awake_any _).mono ?_; rintro e w2 ⟨rfl, hk2⟩; have ht := ht.keeps hk2; have hk := Keeps.trans hk hk2))
    go_ret
    exact ⟨rfl, hk⟩
  · have e8 : FM.mul a (FM.inv a) = 1 := FM.mul_inv (by omega) ha
    have a1 : (((a : Nat) : Int) != 0) = true := by rw [bne_iff_ne]; omega
    by_cases b0 : b = 0
    · subst b0
      have z1 := FM.mul_zero a
      have z2 := FM.zero_mul c
      go_enter Try.func5, Try.ntmps5
      go_wp2_with (first | (go_at_call 9; refine (new_any _).mono ?_; rintro e w1 ⟨rfl, hk, ht⟩) | (go_at_call 10; refine Calls.mono (inv_tab _ _ _ ht ?_) ?_; omega; rintro e w' ⟨rfl, n, rfl⟩) | (go_at_call 12; refine Calls.mono (log_tab _ _ _ ht ?_) ?_; omega; rintro e w' ⟨rfl, n, rfl⟩) | (go_at_call 15; refine Calls.mono (mul_tab _ _ _ _ ht ?_ ?_) ?_; omega; omega; rintro e w' ⟨rfl, n, rfl⟩) | (go_at_call 17; refine Calls.mono (exp_tab _ _ _ ht) ?_; rintro e w' ⟨rfl, rfl⟩) | (go_at_call 14; refine Calls.mono (add_any _ _ _ _ ?_ ?_) ?_; omega; omega; rintro e w' ⟨rfl, rfl⟩) | (go_at_call 19; refine (awake_any _).mono ?_; rintro e w2 ⟨rfl, hk2⟩; have ht := ht.keeps hk2; have hk := Keeps.trans hk hk2))
      go_ret
      exact ⟨rfl, hk⟩
    · have e9 : ¬ FM.mul a b = 0 := by rw [FM.mul_eq_zero]; omega
      go_enter Try.func5, Try.ntmps5
      go_wp2_with (first | (go_at_call 9; refine (new_any _).mono ?_; rintro e w1 ⟨rfl, hk, ht⟩) | (go_at_call 10; refine Calls.mono (inv_tab _ _ _ ht ?_) ?_; omega; rintro e w' ⟨rfl, n, rfl⟩) | (go_at_call 12; refine Calls.mono (log_tab _ _ _ ht ?_) ?_; omega; rintro e w' ⟨rfl, n, rfl⟩) | (go_at_call 15; refine Calls.mono (mul_tab _ _ _ _ ht ?_ ?_) ?_; omega; omega; rintro e w' ⟨rfl, n, rfl⟩) | (go_at_call 17; refine Calls.mono (exp_tab _ _ _ ht) ?_; rintro e w' ⟨rfl, rfl⟩) | (go_at_call 14; refine Calls.mono (add_any _ _ _ _ ?_ ?_) ?_; omega; omega; rintro e w' ⟨rfl, rfl⟩) | (go_at_call 19; refine (awake_any _).mono ?_; rintro e w2 ⟨rfl, hk2⟩; have ht := ht.keeps hk2; have hk := Keeps.trans hk hk2))
      go_ret
      exact ⟨rfl, hk⟩
end Go.Proofs.Ytfjbimceehkndaa
