/- Plain laws of a code's matrix: no number below is 0, no two products crosswise are the same, no two rows. No program in sight. -/
import Derived.Test.YtojdodbedemkoaaMatLaw
namespace Go.Proofs.Ytojdodbedemkoaa
theorem apart_ne0 : ∀ i < 12, ∀ j < i, LA.inv (UInt8.ofNat (i ^^^ j)) ≠ 0 := by decide +kernel
theorem apart_cross : ∀ i < 12, ∀ k < i, ∀ j < k, ∀ l < j, LA.mul (LA.inv (UInt8.ofNat (i ^^^ j))) (LA.inv (UInt8.ofNat (k ^^^ l))) ≠ LA.mul (LA.inv (UInt8.ofNat (i ^^^ l))) (LA.inv (UInt8.ofNat (k ^^^ j))) := by decide +kernel
theorem apart_col : ∀ i < 12, ∀ k < i, 0 < k → LA.inv (UInt8.ofNat (i ^^^ 0)) ≠ LA.inv (UInt8.ofNat (k ^^^ 0)) := by decide +kernel
theorem code_low {K i j : Nat} (h : K ≤ i) : codeAt K i j = LA.inv (UInt8.ofNat (i ^^^ j)) := by unfold codeAt; rw [if_neg (by omega)]
theorem code_at {N K i j : Nat} (hi : i < N) (hj : j < K) : LA.at_ (matOf N K (codeAt K)) i j = codeAt K i j := at_matOf _ hi hj
theorem apart_rows {N K i k : Nat} (hN : N ≤ 12) (hK : 2 ≤ K) (hKN : K ≤ N) (hi : i < N) (hk : k < i) : (matOf N K (codeAt K)).getD i [] ≠ (matOf N K (codeAt K)).getD k [] := by
  intro e
  have key : ∀ j, j < K → codeAt K i j = codeAt K k j := fun j hj => by
    rw [← code_at hi hj, ← code_at (by omega : k < N) hj]; unfold LA.at_; rw [e]
  by_cases h1 : i < K
  · have := key i h1
    unfold codeAt oneAt at this
    rw [if_pos h1, if_pos rfl, if_pos (by omega), if_neg (by omega)] at this
    exact absurd this (by decide)
  · by_cases h2 : k < K
    · obtain ⟨j, hj, hne⟩ : ∃ j, j < K ∧ k ≠ j := by
        by_cases h : k = 0
        · exact ⟨1, by omega, by omega⟩
        · exact ⟨0, by omega, h⟩
      have := key j hj
      rw [code_low (by omega)] at this
      unfold codeAt oneAt at this
      rw [if_pos h2, if_neg hne] at this
      exact apart_ne0 i (by omega) j (by omega) this
    · have := key 0 (by omega)
      rw [code_low (by omega), code_low (by omega)] at this
      exact apart_col i (by omega) k hk (by omega) this
theorem code_facts {k n : Int} (h : codeB k n = true) : ∃ K N : Nat, k = (K : Int) ∧ n = (N : Int) ∧ 1 ≤ K ∧ K ≤ N ∧ N ≤ 12 ∧ ofM k n = (matOf N K (codeAt K), 0) := by
  have h' : 1 ≤ k ∧ k ≤ n ∧ n ≤ 12 := by unfold codeB at h; exact of_decide_eq_true h
  refine ⟨k.toNat, n.toNat, by omega, by omega, by omega, by omega, by omega, ?_⟩
  unfold ofM; rw [h]; rfl
end Go.Proofs.Ytojdodbedemkoaa
