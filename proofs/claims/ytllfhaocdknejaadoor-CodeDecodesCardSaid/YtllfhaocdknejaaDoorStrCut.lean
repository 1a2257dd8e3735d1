/- Slices of strings, as runs; a number modulo a small one. -/
import Derived.Test.YtllfhaocdknejaaDoorText
namespace Go.Proofs.YtllfhaocdknejaaDoor
open Go.RowKit
theorem str_front (x : ByteArray) (k : Nat) (h : k ≤ x.size) : ∀ wx : World, (Instr.slice 9 (.string x) none (some (.int .i64 (k : Int))) none).run Tryd.prog wx = .ok (.string (strB (x.data.toList.take k))) wx := fun wx => by
  rw [run_slice_string_to_if _ _ _ _ _ Tryd.underlying9, if_pos (by omega), ext_take]; rfl
theorem str_back (x : ByteArray) (k : Nat) (h : k ≤ x.size) : ∀ wx : World, (Instr.slice 9 (.string x) (some (.int .i64 (k : Int))) none none).run Tryd.prog wx = .ok (.string (strB (x.data.toList.drop k))) wx := fun wx => by
  rw [run_slice_string_from_if _ _ _ _ _ Tryd.underlying9, if_pos (by omega), ext_drop]; rfl
theorem w64' (a : Int) (h0 : -9223372036854775808 ≤ a) (h1 : a ≤ 9223372036854775807) : wrap64 a = a := by
  unfold wrap64; omega
set_option maxRecDepth 100000 in
theorem rem_some (n : Int) (m : Nat) (h : 0 < m) (hm : m ≤ 1000000) : ∃ κ : Nat, κ < m ∧ wrap64 ((IntKind.u64.wrap n).tmod (m : Int)) = (κ : Int) := by
  have h0 : 0 ≤ IntKind.u64.wrap n := by
    rw [IntKind.wrap_u64]; omega
  have h1 : (IntKind.u64.wrap n).tmod (m : Int) = IntKind.u64.wrap n % (m : Int) := Int.tmod_eq_emod_of_nonneg h0
  have h2 := Int.emod_nonneg (IntKind.u64.wrap n) (show (m : Int) ≠ 0 by omega)
  have h3 := Int.emod_lt_of_pos (IntKind.u64.wrap n) (show (0 : Int) < m by omega)
  rw [h1]
  refine ⟨(IntKind.u64.wrap n % (m : Int)).toNat, by omega, ?_⟩
  rw [w64' _ (by omega) (by omega)]; omega
theorem take_both {α : Type} (l : List α) (p k : Nat) : l.take p ++ (l.drop p).take k = l.take (p + k) := by rw [List.take_add]
end Go.Proofs.YtllfhaocdknejaaDoor
