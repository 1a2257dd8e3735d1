/- More walks of package field: a nil receiver; powers, logarithms. -/
import Derived.Test.YtfjbimceehkndaaField
namespace Go.Proofs.Ytfjbimceehkndaa
open Go.RowKit

set_option maxHeartbeats 400000 in
theorem or_nil (w : World) :
    Calls Try.prog 20 #[.pointer none] w fun e w' => e = .returned (.pointer (some ⟨w.heap.size, 0, none⟩)) ∧ Keeps w w' ∧ Tab w'.heap w.heap.size := by
  go_enter Try.func20, Try.ntmps20
  go_wp2_with (go_at_call 9; refine (new_any _).mono ?_; rintro e w' ⟨rfl, h1, h2⟩)
  go_ret
  exact ⟨rfl, h1, h2⟩

set_option maxHeartbeats 400000 in
theorem mul_nil (x y : Int) (w : World) (hx : 0 ≤ x ∧ x < 256) (hy : 0 ≤ y ∧ y < 256) :
    Calls Try.prog 15 #[.pointer none, .int .u8 x, .int .u8 y] w fun e w' => e = .returned (.int .u8 ((FM.mul x.toNat y.toNat : Nat) : Int)) ∧ Keeps w w' := by
  by_cases h0 : x = 0 ∨ y = 0
  · refine (mul_zero _ x y w h0).mono ?_
    rintro e w' ⟨rfl, rfl⟩
    refine ⟨?_, keeps_refl w⟩
    rcases h0 with rfl | rfl
    · rw [show (0 : Int).toNat = 0 from rfl, FM.zero_mul]; rfl
    · rw [show (0 : Int).toNat = 0 from rfl, FM.mul_zero]; rfl
  · obtain ⟨p, rfl⟩ := Int.eq_ofNat_of_zero_le hx.1
    obtain ⟨q, rfl⟩ := Int.eq_ofNat_of_zero_le hy.1
    have a1 : (((p : Nat) : Int) == 0) = false := by rw [beq_eq_false_iff_ne]; omega
    have a2 : (((q : Nat) : Int) == 0) = false := by rw [beq_eq_false_iff_ne]; omega
    have hm : FM.mul p q = FM.ex (FM.lg p + FM.lg q) := by unfold FM.mul; rw [if_neg (by omega)]
    have l1 := FM.lg_lt p
    have l2 := FM.lg_lt q
    have HM := Lib.hid hm
    clear hm h0
    go_enter Try.func15, Try.ntmps15
    go_wp2_with (go_at_call 20; refine (or_nil _).mono ?_; rintro e w1 ⟨rfl, hk, ht⟩)
    have c1 := ht.2 p (by omega)
    have c2 := ht.2 q (by omega)
    have c3 := ht.1 (FM.lg p + FM.lg q) (by omega)
    rw [← cell_of] at c1 c2 c3
    clear ht
    go_quiet (fail)
    go_wp2
    go_ret
    exact ⟨ret_int (by simp [HM.out]), hk⟩

set_option maxHeartbeats 400000 in
theorem inv_nil (x : Int) (w : World) (hx : 0 ≤ x ∧ x < 256) :
    Calls Try.prog 10 #[.pointer none, .int .u8 x] w fun e w' => e = .returned (.tuple #[.int .u8 ((FM.inv x.toNat : Nat) : Int), .bool (decide (x ≠ 0))]) ∧ Keeps w w' := by
  by_cases h0 : x = 0
  · subst h0
    refine (inv_zero _ w).mono ?_
    rintro e w' ⟨rfl, rfl⟩
    exact ⟨rfl, keeps_refl w⟩
  · obtain ⟨p, rfl⟩ := Int.eq_ofNat_of_zero_le hx.1
    have a1 : (((p : Nat) : Int) == 0) = false := by rw [beq_eq_false_iff_ne]; omega
    have hm : FM.inv p = FM.ex (255 - FM.lg p) := by unfold FM.inv; rw [if_neg (by omega)]
    have l1 := FM.lg_lt p
    have HM := Lib.hid hm
    have H0 := Lib.hid h0
    clear hm h0
    go_enter Try.func10, Try.ntmps10
    go_wp2_with (go_at_call 20; refine (or_nil _).mono ?_; rintro e w1 ⟨rfl, hk, ht⟩)
    have c1 := ht.2 p (by omega)
    have c3 := ht.1 (255 - FM.lg p) (by omega)
    rw [← cell_of] at c1 c3
    clear ht
    go_quiet (fail)
    go_wp2
    go_ret2
    exact ⟨ret_two (by simp [HM.out]) (by have := H0.out; simp; omega), hk⟩

set_option maxHeartbeats 400000 in
theorem log_zero (p : Value) (w : World) :
    Calls Try.prog 12 #[p, .int .u8 0] w fun e w' => e = .returned (.tuple #[.int .i64 0, .bool false]) ∧ w = w' := by
  go_enter Try.func12, Try.ntmps12
  go_wp2
  go_ret2
  exact ⟨rfl, rfl⟩

theorem lg_zero : FM.lg 0 = 0 := by decide

set_option maxHeartbeats 400000 in
theorem log_tab (b : Nat) (x : Int) (w : World) (ht : Tab w.heap b) (hx : 0 ≤ x ∧ x < 256) :
    Calls Try.prog 12 #[.pointer (some ⟨b, 0, none⟩), .int .u8 x] w fun e w' => e = .returned (.tuple #[.int .i64 ((FM.lg x.toNat : Nat) : Int), .bool (decide (x ≠ 0))]) ∧ ∃ n, w' = w.drewN n := by
  by_cases h0 : x = 0
  · subst h0
    refine (log_zero _ w).mono ?_
    rintro e w' ⟨rfl, rfl⟩
    exact ⟨rfl, 0, rfl⟩
  · obtain ⟨p, rfl⟩ := Int.eq_ofNat_of_zero_le hx.1
    have a1 : (((p : Nat) : Int) == 0) = false := by rw [beq_eq_false_iff_ne]; omega
    have c1 := ht.2 p (by omega)
    rw [← cell_of] at c1
    have H0 := Lib.hid h0
    clear h0 ht
    go_enter Try.func12, Try.ntmps12
    go_wp2_with (go_at_call 20; refine (or_tab _ _).mono ?_; rintro e w' ⟨rfl, rfl⟩)
    go_ret2
    exact ⟨ret_two (by simp) (by have := H0.out; simp; omega), 0, rfl⟩

set_option maxHeartbeats 400000 in
theorem log_nil (x : Int) (w : World) (hx : 0 ≤ x ∧ x < 256) :
    Calls Try.prog 12 #[.pointer none, .int .u8 x] w fun e w' => e = .returned (.tuple #[.int .i64 ((FM.lg x.toNat : Nat) : Int), .bool (decide (x ≠ 0))]) ∧ Keeps w w' := by
  by_cases h0 : x = 0
  · subst h0
    refine (log_zero _ w).mono ?_
    rintro e w' ⟨rfl, rfl⟩
    exact ⟨rfl, keeps_refl w⟩
  · obtain ⟨p, rfl⟩ := Int.eq_ofNat_of_zero_le hx.1
    have a1 : (((p : Nat) : Int) == 0) = false := by rw [beq_eq_false_iff_ne]; omega
    have H0 := Lib.hid h0
    clear h0
    go_enter Try.func12, Try.ntmps12
    go_wp2_with fail
    refine (or_nil _).mono ?_
    rintro e w1 ⟨rfl, hk, ht⟩
    have c1 := ht.2 p (by omega)
    rw [← cell_of] at c1
    clear ht
    go_wp2
    go_ret2
    exact ⟨ret_two (by simp) (by have := H0.out; simp; omega), hk⟩

theorem tmod_cases (n : Int) : (n.tmod 255 = n % 255 ∧ ¬ n.tmod 255 < 0) ∨ (n.tmod 255 + 255 = n % 255 ∧ n.tmod 255 < 0 ∧ 0 < n % 255) := by
  have h1 := Int.tmod_def n 255
  have h2 : n.tdiv 255 = if 0 ≤ n then n / 255 else -(-n / 255) := by
    split
    · rename_i h; exact Int.tdiv_eq_ediv_of_nonneg h
    · rename_i h
      have := Int.tdiv_eq_ediv_of_nonneg (a := -n) (b := 255) (by omega)
      rw [Int.neg_tdiv] at this; omega
  rw [h2] at h1
  split at h1 <;> omega

theorem tmod_range (n : Int) : -255 < n.tmod 255 ∧ n.tmod 255 < 255 := by
  rcases tmod_cases n with h | h <;> omega

set_option maxHeartbeats 400000 in
theorem exp_tab (b : Nat) (n : Int) (w : World) (ht : Tab w.heap b) :
    Calls Try.prog 17 #[.pointer (some ⟨b, 0, none⟩), .int .i64 n] w fun e w' => e = .returned (.int .u8 ((FM.ex (n % 255).toNat : Nat) : Int)) ∧ w = w' := by
  have hw : IntKind.i64.wrap (n.tmod 255) = n.tmod 255 := IntWalk.i64_in _ (by have := tmod_range n; omega)
  rcases tmod_cases n with ⟨h, h'⟩ | ⟨h, h', hn⟩
  · have c1 := ht.1 (n % 255).toNat (by omega)
    rw [← cell_of] at c1
    have r0 : 0 ≤ n.tmod 255 := by omega
    have r1 : n.tmod 255 < 255 := by omega
    rw [← h] at c1 ⊢
    clear h ht
    go_enter Try.func17, Try.ntmps17
    go_wp2_with (go_at_call 20; refine (or_tab _ _).mono ?_; rintro e w' ⟨rfl, rfl⟩)
    go_ret
    exact ⟨rfl, rfl⟩
  · have c1 := ht.1 (n % 255).toNat (by omega)
    rw [← cell_of] at c1
    have r0 : 0 ≤ n.tmod 255 + 255 := by omega
    have r1 : n.tmod 255 + 255 < 255 := by omega
    rw [← h] at c1 ⊢
    clear h ht hn
    go_enter Try.func17, Try.ntmps17
    go_wp2_with (go_at_call 20; refine (or_tab _ _).mono ?_; rintro e w' ⟨rfl, rfl⟩)
    go_ret
    exact ⟨rfl, rfl⟩

set_option maxHeartbeats 400000 in
theorem exp_nil (n : Int) (w : World) :
    Calls Try.prog 17 #[.pointer none, .int .i64 n] w fun e w' => e = .returned (.int .u8 ((FM.ex (n % 255).toNat : Nat) : Int)) ∧ Keeps w w' := by
  have hw : IntKind.i64.wrap (n.tmod 255) = n.tmod 255 := IntWalk.i64_in _ (by have := tmod_range n; omega)
  rcases tmod_cases n with ⟨h, h'⟩ | ⟨h, h', hn⟩
  · have r0 : 0 ≤ n.tmod 255 := by omega
    have r1 : n.tmod 255 < 255 := by omega
    have hx : (n % 255).toNat < 255 := by omega
    rw [← h] at hx ⊢
    clear h
    go_enter Try.func17, Try.ntmps17
    go_wp2_with fail
    refine Calls.mono (or_nil _) ?_
    rintro e w1 ⟨rfl, hk, ht⟩
    have c1 := ht.1 _ (Nat.lt_trans hx (by decide))
    rw [← cell_of] at c1
    clear ht
    go_wp2
    go_ret
    exact ⟨rfl, hk⟩
  · have r0 : 0 ≤ n.tmod 255 + 255 := by omega
    have r1 : n.tmod 255 + 255 < 255 := by omega
    have hx : (n % 255).toNat < 255 := by omega
    rw [← h] at hx ⊢
    clear h hn
    go_enter Try.func17, Try.ntmps17
    go_wp2_with fail
    refine Calls.mono (or_nil _) ?_
    rintro e w1 ⟨rfl, hk, ht⟩
    have c1 := ht.1 _ (Nat.lt_trans hx (by decide))
    rw [← cell_of] at c1
    clear ht
    go_wp2
    go_ret
    exact ⟨rfl, hk⟩
end Go.Proofs.Ytfjbimceehkndaa
