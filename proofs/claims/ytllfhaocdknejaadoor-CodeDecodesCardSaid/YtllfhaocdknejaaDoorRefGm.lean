/- The reference's product on bytes. -/
import Derived.Test.YtllfhaocdknejaaDoorRefOf
namespace Go.Proofs.YtllfhaocdknejaaDoor
open Go.RowKit
theorem grefmul (x y : UInt8) (w : World) :
    Calls Tryd.prog 21 #[.int .u8 (x.toNat : Int), .int .u8 (y.toNat : Int)] w fun e w' => e = .returned (.int .u8 ((LA.mul x y).toNat : Int)) ∧ w = w' := by
  have hx := x.toNat_lt
  have hy := y.toNat_lt
  refine (refmul_any _ _ w (by omega) (by omega)).mono ?_
  rintro e w' ⟨rfl, h⟩
  exact ⟨by rw [LA.mul_toNat]; rfl, h⟩
theorem gxor (x y : UInt8) : bits .xor .u8 (x.toNat : Int) (y.toNat : Int) = ((x ^^^ y).toNat : Int) := by
  rw [xor_u8 _ _ x.toNat_lt y.toNat_lt, LA.xor_toNat]
end Go.Proofs.YtllfhaocdknejaaDoor
