/- The walk of the law's own test on 1. -/
import Derived.Test.YtojdodbedemkoaaTms
import Derived.Test.YtojdodbedemkoaaSolLaw2
namespace Go.Proofs.Ytojdodbedemkoaa
open Go.RowKit
set_option maxRecDepth 100000 in
set_option maxHeartbeats 4000000 in
theorem one_yes (va : Value) (n : Nat) (w : World) (h1 : 1 ≤ n) (h2 : n ≤ 255) (ha : MatAt w.heap va (matOf n n oneAt)) : Calls Try.prog 43 #[va] w fun e w' => e = .returned (.bool true) ∧ Keeps w w' := by
  obtain ⟨pa, qa, rfl⟩ := seq_shape ha
  rw [matOf_length] at *
  obtain ⟨ba, oa, rfl⟩ := mat_addr ha (by rw [matOf_length]; omega)
  have HA := Lib.hid ha
  clear ha
  go_enter Try.func43, Try.ntmps43
  go_wp2
  go_loopw [3] (fun i wr => ∃ k : Nat, k ≤ n ∧ i = .int .i64 k ∧ ∃ q, wr = w.drewN q) (fun i _ => n - (intOf i).toNat)
  case atStart => exact ⟨0, by omega, rfl, 0, rfl⟩
  case round =>
    obtain ⟨k, hk, rfl, q, rfl⟩ := hrel
    by_cases hkl : k < n
    · have hkI : (k : Int) < (n : Int) := by omega
      have HAq : Hid (MatAt (w.drewN q).heap (.slice (some ⟨ba, oa, none⟩) n qa) (matOf n n oneAt)) := HA
      obtain ⟨b1, o1, q1, r1, rs⟩ := row_cells HAq.out (matOf_rect n n oneAt) h1 (i := k) (by rw [matOf_length]; omega)
      have HRS := Lib.hid rs
      clear rs
      go_wp2
      go_loopw [4] (fun c wr => ∃ j : Nat, j ≤ n ∧ c = .int .i64 j ∧ ∃ q, wr = w.drewN q) (fun c _ => n - (intOf c).toNat)
      case atStart => exact ⟨0, by omega, rfl, q, rfl⟩
      case round =>
        obtain ⟨j, hj, rfl, q', rfl⟩ := hrel
        have r1 : (w.drewN q').cell? ⟨ba, oa + k, none⟩ = some (.slice (some ⟨b1, o1, none⟩) n q1) := r1
        by_cases hjl : j < n
        · have hjI : (j : Int) < (n : Int) := by omega
          have cj := HRS.out j hjl
          rw [at_matOf _ hkl hjl] at cj
          have cj : (w.drewN q').cell? ⟨b1, o1 + j, none⟩ = some (.int .u8 ((oneAt k j).toNat : Int)) := cj
          by_cases e : k = j
          · have e1 : ((k : Int) == (j : Int)) = true := by rw [beq_iff_eq]; omega
            have eo : oneAt k j = 1 := by unfold oneAt; rw [if_pos e]
            rw [eo] at cj
            change World.cell? _ _ = some (.int .u8 1) at cj
            clear e eo
            go_wp2
            exact ⟨⟨j + 1, by omega, rfl, q', rfl⟩, by simp [intOf]; omega⟩
          · have e1 : ((k : Int) == (j : Int)) = false := beq_eq_false_iff_ne.2 (by omega)
            have eo : oneAt k j = 0 := by unfold oneAt; rw [if_neg e]
            rw [eo] at cj
            change World.cell? _ _ = some (.int .u8 0) at cj
            clear e eo
            go_wp2
            exact ⟨⟨j + 1, by omega, rfl, q', rfl⟩, by simp [intOf]; omega⟩
        · obtain rfl : j = n := by omega
          go_wp2
          exact ⟨⟨k + 1, by omega, rfl, q', rfl⟩, by simp [intOf]; omega⟩
    · obtain rfl : k = n := by omega
      go_wp2
      go_ret
      exact ⟨rfl, keeps_refl w⟩
end Go.Proofs.Ytojdodbedemkoaa
