/- The walks of the turn of a number's bits. -/
import Derived.Test.YtcapalofocmmoaaShaMath
import Derived.Test.YtcapalofocmmoaaProg
namespace Go.Proofs.Ytcapalofocmmoaa
open Go.RowKit
theorem wrap_u32 (n : Nat) : IntKind.u32.wrap (n : Int) = ((n % 4294967296 : Nat) : Int) := by rw [IntKind.wrap_u32]; omega
theorem turn_bits : ∀ n < 32, 1 ≤ n → bits .and .u64 (IntKind.u64.wrap (-((n : Nat) : Int))) 31 = ((32 - n : Nat) : Int) := by decide
theorem or_u32 (a b : Nat) (ha : a < 4294967296) (hb : b < 4294967296) : bits .or .u32 (a : Int) (b : Int) = ((a ||| b : Nat) : Int) :=
  bits_nat .or .u32 a b _ ha hb (· ||| ·) (fun x y => BitVec.toNat_or x y) rfl (IntWalk.u32_in _ (by have := Nat.or_lt_two_pow (n := 32) ha hb; omega))
theorem xor_u32 (a b : Nat) (ha : a < 4294967296) (hb : b < 4294967296) : bits .xor .u32 (a : Int) (b : Int) = ((a ^^^ b : Nat) : Int) :=
  bits_nat .xor .u32 a b _ ha hb (· ^^^ ·) (fun x y => BitVec.toNat_xor x y) rfl (IntWalk.u32_in _ (by have := Nat.xor_lt_two_pow (n := 32) ha hb; omega))
theorem and_u32 (a b : Nat) (ha : a < 4294967296) (hb : b < 4294967296) : bits .and .u32 (a : Int) (b : Int) = ((a &&& b : Nat) : Int) :=
  bits_nat .and .u32 a b _ ha hb (· &&& ·) (fun x y => BitVec.toNat_and x y) rfl (IntWalk.u32_in _ (by have := Nat.and_lt_two_pow (n := 32) a hb; omega))
theorem shr_nat (x n : Nat) : (x : Int) / 2 ^ n = ((x >>> n : Nat) : Int) := by
  rw [Nat.shiftRight_eq_div_pow, Int.natCast_ediv, Int.natCast_pow]; rfl
theorem shl_nat (x n : Nat) : (x : Int) * 2 ^ n % 4294967296 = ((x <<< n % 4294967296 : Nat) : Int) := by
  rw [Nat.shiftLeft_eq, Int.natCast_emod, Int.natCast_mul, Int.natCast_pow]; rfl
theorem rotr_val (x n : Nat) (hx : x < 4294967296) (h2 : n ≤ 32) : bits .or .u32 ((x : Int) * 2 ^ (32 - n) % 4294967296) ((x : Int) / 2 ^ (32 - (32 - n))) = ((SH.rotr x n : Nat) : Int) := by
  rw [show 32 - (32 - n) = n from by omega, shr_nat, shl_nat, or_u32 _ _ (Nat.mod_lt _ (by decide)) (Nat.lt_of_le_of_lt (Nat.shiftRight_le _ _) hx)]
  unfold SH.rotr; rw [Nat.or_comm]
set_option maxRecDepth 100000 in
set_option maxHeartbeats 1000000 in
theorem rotl_any (x n : Nat) (w : World) (hx : x < 4294967296) (h1 : 1 ≤ n) (h2 : n < 32) :
    Calls Try.prog 78 #[.int .u32 (x : Int), .int .i64 (-(n : Int))] w fun e w' => e = .returned (.int .u32 (SH.rotr x n : Int)) ∧ w = w' := by
  have hb := turn_bits n h2 h1
  go_enter Try.func78, Try.ntmps78
  go_wp2
  go_ret
  exact ⟨ret_int (rotr_val x n hx (by omega)), rfl⟩
/-- The program's turn; the document's. -/
theorem turn_any (x n : Nat) (w : World) (hx : x < 4294967296) (h1 : 1 ≤ n) (h2 : n < 32) :
    Calls Try.prog 72 #[.int .u32 (x : Int), .int .i64 (n : Int)] w fun e w' => e = .returned (.int .u32 (SH.rotr x n : Int)) ∧ w = w' := by
  go_enter Try.func72, Try.ntmps72
  go_wp2_with fail
  refine Calls.mono (rotl_any x n _ hx h1 h2) ?_
  rintro e w' ⟨rfl, rfl⟩
  go_wp2
  go_ret
  exact ⟨rfl, rfl⟩
theorem refturn_any (x n : Nat) (w : World) (hx : x < 4294967296) (h1 : 1 ≤ n) (h2 : n < 32) :
    Calls Try.prog 75 #[.int .u32 (x : Int), .int .u32 (n : Int)] w fun e w' => e = .returned (.int .u32 (SH.rotr x n : Int)) ∧ w = w' := by
  go_enter Try.func75, Try.ntmps75
  go_wp2
  go_ret
  exact ⟨ret_int (by rw [shr_nat, shl_nat, or_u32 _ _ (Nat.lt_of_le_of_lt (Nat.shiftRight_le _ _) hx) (Nat.mod_lt _ (by decide))]; rfl), rfl⟩
end Go.Proofs.Ytcapalofocmmoaa
