/- The walk of (*sha.Hash).Len. -/
import Derived.Test.YtcapalofocmmoaaShaObj
namespace Go.Proofs.Ytcapalofocmmoaa
open Go.RowKit
theorem hlen_any (b : Nat) (l : List UInt8) (w : World) (h : HashM w b l) : Calls Try.prog 20 #[.pointer (some ⟨b, 0, none⟩)] w fun e w' => e = .returned (.int .i64 (l.length : Int)) ∧ w = w' := by
  have c9 := h.tot.1
  clear h
  go_enter Try.func20, Try.ntmps20
  go_wp2
  go_ret
  exact ⟨rfl, rfl⟩
theorem hlen_nil (w : World) : Calls Try.prog 20 #[.pointer none] w fun e w' => e = .returned (.int .i64 0) ∧ w = w' := by
  go_enter Try.func20, Try.ntmps20
  go_wp2
  go_ret
  exact ⟨rfl, rfl⟩
end Go.Proofs.Ytcapalofocmmoaa
