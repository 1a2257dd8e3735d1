/- The walks of the field's reference: a product bit by bit. -/
import Derived.Test.YtllfhaocdknejaaDoorRows
import Derived.Test.YtllfhaocdknejaaDoorBase
import Derived.Test.YtllfhaocdknejaaDoorRefMath
import Derived.Test.YtllfhaocdknejaaDoorField
namespace Go.Proofs.YtllfhaocdknejaaDoor
open Go.RowKit

theorem and_bit (b k : Nat) : (b &&& 2 ^ k = 0) ↔ b.testBit k = false := by
  constructor
  · intro h
    have := congrArg (fun n => Nat.testBit n k) h
    simpa [Nat.testBit_and, Nat.testBit_two_pow_self] using this
  · intro h
    apply Nat.eq_of_testBit_eq
    intro i
    rw [Nat.testBit_and, Nat.testBit_two_pow, Nat.zero_testBit]
    by_cases e : k = i
    · subst e; rw [h]; rfl
    · simp [e]

theorem pow_int (k : Nat) (h : k < 15) : ((2 : Int) ^ k) = ((2 ^ k : Nat) : Int) ∧ (2 : Nat) ^ k ≤ 16384 := by
  refine ⟨by rw [Int.natCast_pow]; rfl, ?_⟩
  have : (2 : Nat) ^ k ≤ 2 ^ 14 := Nat.pow_le_pow_right (by omega) (by omega)
  exact this
theorem bit8 (b k : Nat) (hb : b < 256) (hk : k < 8) : (bits .and .u8 (b : Int) ((2 : Int) ^ k % 256) != 0) = b.testBit k := by
  have h2 : (2 : Nat) ^ k ≤ 2 ^ 7 := Nat.pow_le_pow_right (by omega) (by omega)
  have := and_bit b k
  rw [(pow_int k (by omega)).1]
  generalize (2 : Nat) ^ k = m at *
  rw [show ((m : Int) % 256) = (m : Int) from by omega, and_u8 b _ hb (by omega), Bool.eq_iff_iff, bne_iff_ne]
  cases h : b.testBit k with
  | false => simp [this.2 h]
  | true =>
    simp only [iff_true]
    intro h0
    have h1 : b &&& m = 0 := by omega
    rw [this.1 h1] at h; cases h
theorem bit64 (b k : Nat) (hb : b < 32768) (hk : k < 15) : (bits .and .i64 (b : Int) (wrap64 ((2 : Int) ^ k)) != 0) = b.testBit k := by
  have h2 := (pow_int k hk).2
  have := and_bit b k
  rw [(pow_int k hk).1]
  generalize (2 : Nat) ^ k = m at *
  rw [IntWalk.wrap64_in _ (by omega), and_i64 b _ (by omega) (by omega), Bool.eq_iff_iff, bne_iff_ne]
  cases h : b.testBit k with
  | false => simp [this.2 h]
  | true =>
    simp only [iff_true]
    intro h0
    have h1 : b &&& m = 0 := by omega
    rw [this.1 h1] at h; cases h
theorem shl64 (a k : Nat) (ha : a < 512) (hk : k < 15) : wrap64 ((a : Int) * 2 ^ k) = ((a <<< k : Nat) : Int) ∧ a <<< k < 8388608 := by
  have h2 := (pow_int k hk).2
  have h3 : a * 2 ^ k ≤ 511 * 16384 := Nat.mul_le_mul (by omega) h2
  rw [Nat.shiftLeft_eq]
  refine ⟨?_, by omega⟩
  rw [(pow_int k hk).1, ← Int.natCast_mul]
  exact IntWalk.wrap64_in _ (by omega)

set_option maxRecDepth 100000 in
set_option maxHeartbeats 1000000 in
theorem refmul_any (x y : Int) (w : World) (hx : 0 ≤ x ∧ x < 256) (hy : 0 ≤ y ∧ y < 256) :
    Calls Tryd.prog 21 #[.int .u8 x, .int .u8 y] w fun e w' => e = .returned (.int .u8 ((FM.mul x.toNat y.toNat : Nat) : Int)) ∧ w = w' := by
  obtain ⟨a, rfl⟩ := Int.eq_ofNat_of_zero_le hx.1
  obtain ⟨b, rfl⟩ := Int.eq_ofNat_of_zero_le hy.1
  have ha : a < 256 := by omega
  have hb : b < 256 := by omega
  go_enter Tryd.func21, Tryd.ntmps21
  go_wp2
  go_loop [6, 7] (fun p i => ∃ k : Nat, k ≤ 8 ∧ i = .int .i64 k ∧ p = .int .i64 (FM.pk a b k : Nat)) (fun _ i => 8 - (intOf i).toNat)
  case atStart => exact ⟨0, by omega, rfl, rfl⟩
  case round =>
    obtain ⟨k, hk, rfl, rfl⟩ := hrel
    by_cases hlt : k < 8
    · have hb8 := bit8 b k hb hlt
      have hs := shl64 a k (by omega) (by omega)
      have hp := FM.pk_lt (b := b) ha k hk
      have hx := xor_i64 (FM.pk a b k) (a <<< k) (by omega) (by omega)
      have HX := Lib.hid hx
      have HS := Lib.hid hs.1
      clear hx hs hp
      cases hbit : b.testBit k with
      | true =>
        rw [hbit] at hb8
        have HB := Lib.hid hbit
        clear hbit
        go_wp2
        exact ⟨⟨k + 1, by omega, rfl, by rw [HS.out, HX.out]; simp only [FM.pk]; rw [if_pos HB.out]⟩, by simp [intOf]; omega⟩
      | false =>
        rw [hbit] at hb8
        have HB := Lib.hid hbit
        clear hbit
        go_wp2
        exact ⟨⟨k + 1, by omega, rfl, by simp only [FM.pk]; rw [if_neg (by rw [HB.out]; decide)]⟩, by simp [intOf]; omega⟩
    · obtain rfl : k = 8 := by omega
      have hp := FM.pk_lt (b := b) ha 8 (by omega)
      have hr : ∀ j, j ≤ 7 → FM.rd (FM.pk a b 8) j < 32768 := fun j hj => FM.rd_lt hp j hj
      have hm := FM.rd_mul ha hb
      have HM := Lib.hid hm
      have HR := Lib.hid hr
      clear hm hr hp
      go_wp2
      go_loop [6, 8] (fun p i => ∃ i' : Nat, 7 ≤ i' ∧ i' ≤ 14 ∧ i = .int .i64 i' ∧ p = .int .i64 (FM.rd (FM.pk a b 8) (14 - i') : Nat)) (fun _ i => (intOf i).toNat)
      case atStart => exact ⟨14, by omega, by omega, rfl, rfl⟩
      case round =>
        obtain ⟨i, hi, hi', rfl, rfl⟩ := hrel
        by_cases h8 : 8 ≤ i
        · have hP := HR.out (14 - i) (by omega)
          have hb64 := bit64 (FM.rd (FM.pk a b 8) (14 - i)) i hP (by omega)
          have hs := shl64 285 (i - 8) (by omega) (by omega)
          have hx := xor_i64 (FM.rd (FM.pk a b 8) (14 - i)) (285 <<< (i - 8)) (by omega) (by omega)
          have hn : FM.rd (FM.pk a b 8) (14 - (i - 1)) = FM.st i (FM.rd (FM.pk a b 8) (14 - i)) := by
            rw [show 14 - (i - 1) = (14 - i) + 1 from by omega]; simp only [FM.rd]; rw [show 14 - (14 - i) = i from by omega]
          have HX := Lib.hid hx
          have HS : Hid (wrap64 ((285 : Int) * 2 ^ (i - 8)) = ((285 <<< (i - 8) : Nat) : Int)) := Lib.hid hs.1
          have HN := Lib.hid hn
          clear hx hs hn hP
          cases hbit : (FM.rd (FM.pk a b 8) (14 - i)).testBit i with
          | true =>
            rw [hbit] at hb64
            have HB := Lib.hid hbit
            clear hbit
            go_wp2
            exact ⟨⟨i - 1, by omega, by omega, by rw [show ((i - 1 : Nat) : Int) = (i : Int) - 1 from by omega], by rw [HN.out, HS.out, HX.out]; unfold FM.st; rw [if_pos HB.out]⟩, by simp [intOf]; omega⟩
          | false =>
            rw [hbit] at hb64
            have HB := Lib.hid hbit
            clear hbit
            go_wp2
            exact ⟨⟨i - 1, by omega, by omega, by rw [show ((i - 1 : Nat) : Int) = (i : Int) - 1 from by omega], by rw [HN.out]; unfold FM.st; rw [if_neg (by rw [HB.out]; decide)]⟩, by simp [intOf]; omega⟩
        · obtain rfl : i = 7 := by omega
          go_wp2
          go_ret
          exact ⟨ret_int (by rw [HM.out]; have := FM.mul_lt a b; omega), rfl⟩

set_option maxRecDepth 100000 in
set_option maxHeartbeats 1000000 in
theorem refinv_any (x : Int) (w : World) (hx : 0 ≤ x ∧ x < 256) :
    Calls Tryd.prog 29 #[.int .u8 x] w fun e w' => e = .returned (.tuple #[.int .u8 ((FM.inv x.toNat : Nat) : Int), .bool (decide (x ≠ 0))]) ∧ w = w' := by
  obtain ⟨a, rfl⟩ := Int.eq_ofNat_of_zero_le hx.1
  have ha : a < 256 := by omega
  go_enter Tryd.func29, Tryd.ntmps29
  go_wp2
  go_loop [4] (fun i => ∃ b : Nat, 1 ≤ b ∧ b ≤ 256 ∧ i = .int .i64 b ∧ Hid (∀ c, 1 ≤ c → c < b → FM.mul a c ≠ 1)) (fun i => 256 - (intOf i).toNat)
  case atStart => exact ⟨1, by omega, by omega, rfl, fun c h1 h2 => by omega⟩
  case round =>
    obtain ⟨b, hb1, hb2, rfl, hno⟩ := hrel
    by_cases hlt : b < 256
    · by_cases hm : FM.mul a b = 1
      · have hi := FM.inv_of ha hlt hm
        have h0 : ¬ a = 0 := fun h => by rw [h, FM.zero_mul] at hm; omega
        have HI := Lib.hid hi
        have H0 := Lib.hid h0
        clear hi h0
        go_wp2_with (go_at_call 21; refine Calls.mono (refmul_any _ _ _ ?_ ?_) ?_; omega; omega; rintro e w' ⟨rfl, rfl⟩)
        go_ret2
        exact ⟨ret_two (by rw [HI.out]; rfl) (by have := H0.out; simp; omega), rfl⟩
      · have g : (((FM.mul a b : Nat) : Int) == 1) = false := by rw [beq_eq_false_iff_ne]; omega
        have HM := Lib.hid hm
        clear hm
        go_wp2_with (go_at_call 21; refine Calls.mono (refmul_any _ _ _ ?_ ?_) ?_; omega; omega; rintro e w' ⟨rfl, rfl⟩)
        refine ⟨⟨b + 1, by omega, by omega, by rfl, fun c h1 h2 => ?_⟩, by simp [intOf]; omega⟩
        by_cases e : c = b
        · subst e; exact HM.out
        · exact hno.out c h1 (by omega)
    · obtain rfl : b = 256 := by omega
      have h0 : a = 0 := by
        rcases Nat.eq_zero_or_pos a with h | h
        · exact h
        · exact absurd (FM.mul_inv h ha) (hno.out _ (FM.inv_pos h) (FM.inv_lt a))
      subst h0
      go_wp2
      go_ret2
      exact ⟨rfl, rfl⟩

end Go.Proofs.YtllfhaocdknejaaDoor
