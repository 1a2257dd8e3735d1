/- The digests that the closed law ShaNames asks. No program in sight. -/
import Derived.Test.YtcapalofocmmoaaSExam
namespace Go.Proofs.Ytcapalofocmmoaa
open Go.RowKit
theorem ex4 : begB (⟨#[97, 98, 99, 100, 98, 99, 100, 101, 99, 100, 101, 102, 100, 101, 102, 103, 101, 102, 103, 104, 102, 103, 104, 105, 103, 104, 105, 106, 104, 105, 106, 107, 105, 106, 107, 108, 106, 107, 108, 109, 107, 108, 109, 110, 108, 109, 110, 111, 109, 110, 111, 112, 110, 111, 112, 113]⟩ : ByteArray).data.toList (⟨#[50, 52, 56, 100, 54, 97, 54, 49, 100, 50, 48, 54, 51, 56, 98, 56]⟩ : ByteArray).data.toList (⟨#[49, 57, 100, 98, 48, 54, 99, 49]⟩ : ByteArray).data.toList = true := by decide +kernel
theorem ex5 : begB (⟨([97, 98, 99, 100, 101, 102, 103, 104, 98, 99, 100, 101, 102, 103, 104, 105, 99, 100, 101, 102, 103, 104, 105, 106, 100, 101, 102, 103, 104, 105, 106, 107, 101, 102, 103, 104, 105, 106, 107, 108, 102, 103, 104, 105, 106, 107, 108, 109, 103, 104, 105, 106, 107, 108, 109, 110].append [104, 105, 106, 107, 108, 109, 110, 111, 105, 106, 107, 108, 109, 110, 111, 112, 106, 107, 108, 109, 110, 111, 112, 113, 107, 108, 109, 110, 111, 112, 113, 114, 108, 109, 110, 111, 112, 113, 114, 115, 109, 110, 111, 112, 113, 114, 115, 116, 110, 111, 112, 113, 114, 115, 116, 117]).toArray⟩ : ByteArray).data.toList (⟨#[99, 102, 53, 98, 49, 54, 97, 55, 55, 56, 97, 102, 56, 51, 56, 48]⟩ : ByteArray).data.toList (⟨#[55, 97, 102, 101, 101, 57, 100, 49]⟩ : ByteArray).data.toList = true := by decide +kernel
def qs (n : Nat) : List UInt8 := (SH.sumB (List.replicate n 113)).take 2
theorem qs0 : (List.range 7).map (fun n => qs (n + 50)) = [[150, 85], [208, 233], [245, 6], [241, 84], [233, 199], [133, 82], [248, 206]] := by decide +kernel
theorem qs1 : (List.range 7).map (fun n => qs (n + 57)) = [[36, 59], [236, 50], [9, 164], [80, 221], [195, 75], [84, 7], [155, 73]] := by decide +kernel
theorem qs2 : (List.range 7).map (fun n => qs (n + 64)) = [[238, 142], [43, 108], [103, 20], [38, 164], [246, 179], [238, 48], [239, 201]] := by decide +kernel
def qT : List (List UInt8) := [[150, 85], [208, 233], [245, 6], [241, 84], [233, 199], [133, 82], [248, 206], [36, 59], [236, 50], [9, 164], [80, 221], [195, 75], [84, 7], [155, 73], [238, 142], [43, 108], [103, 20], [38, 164], [246, 179], [238, 48], [239, 201]]
theorem qs_at (n : Nat) (h : n < 21) : qs (n + 50) = qT.getD n [] := by
  have h3 : ∀ (f : Nat → List UInt8) (l : List (List UInt8)), (List.range 7).map f = l → ∀ i, i < 7 → f i = l.getD i [] := fun f l e i hi => by
    subst e
    rw [List.getD_eq_getElem?_getD, List.getElem?_map, List.getElem?_range hi]; rfl
  rcases Nat.lt_or_ge n 7 with h1 | h1
  · have h9 := h3 _ _ qs0 n h1
    rw [h9]
    have : ∀ i < 7, ([[150, 85], [208, 233], [245, 6], [241, 84], [233, 199], [133, 82], [248, 206]] : List (List UInt8)).getD i [] = qT.getD i [] := by decide
    exact this n h1
  · rcases Nat.lt_or_ge n 14 with h2 | h2
    · have h9 := h3 _ _ qs1 (n - 7) (by omega)
      rw [show n + 50 = n - 7 + 57 from by omega, h9]
      have : ∀ i < 7, ([[36, 59], [236, 50], [9, 164], [80, 221], [195, 75], [84, 7], [155, 73]] : List (List UInt8)).getD i [] = qT.getD (i + 7) [] := by decide
      rw [this (n - 7) (by omega), show n - 7 + 7 = n from by omega]
    · have h9 := h3 _ _ qs2 (n - 14) (by omega)
      rw [show n + 50 = n - 14 + 64 from by omega, h9]
      have : ∀ i < 7, ([[238, 142], [43, 108], [103, 20], [38, 164], [246, 179], [238, 48], [239, 201]] : List (List UInt8)).getD i [] = qT.getD (i + 14) [] := by decide
      rw [this (n - 14) (by omega), show n - 14 + 14 = n from by omega]
theorem q_apart (n : Nat) (h1 : 50 ≤ n) (h2 : n < 70) : SH.sumB (List.replicate n 113) ≠ SH.sumB (List.replicate (n + 1) 113) := fun e => by
  have a1 := qs_at (n - 50) (by omega)
  have a2 := qs_at (n - 50 + 1) (by omega)
  rw [show n - 50 + 50 = n from by omega] at a1
  rw [show n - 50 + 1 + 50 = n + 1 from by omega] at a2
  unfold qs at a1 a2
  rw [e, a2] at a1
  have : ∀ i < 20, qT.getD (i + 1) [] ≠ qT.getD i [] := by decide
  exact this (n - 50) (by omega) a1
end Go.Proofs.Ytcapalofocmmoaa
