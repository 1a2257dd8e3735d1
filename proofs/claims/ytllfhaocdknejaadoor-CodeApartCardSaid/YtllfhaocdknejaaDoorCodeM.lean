/- What package code tells, as plain functions on lists of bytes. No program in sight. -/
import Derived.Test.YtllfhaocdknejaaDoorCSpec
namespace Go.Proofs.YtllfhaocdknejaaDoor
open Go.RowKit
/-- How long payloads are. -/
def sizeN (K m : Nat) : Nat := (8 + m + K - 1) / K
/-- The same, or how it is refused. -/
def sizeC (k n len : Int) : Int × Int := if codeB k n && decide (0 ≤ len) then (if 32768 < len then (0, 40) else (((sizeN k.toNat len.toNat : Nat) : Int), 0)) else (0, 1)
def head8 (m : Nat) : List UInt8 := [0, 0, 0, 0, 0, UInt8.ofNat (m / 65536), UInt8.ofNat (m / 256), UInt8.ofNat m]
/-- The length, the blob, noughts. -/
def wholeB (K : Nat) (d : List UInt8) : List UInt8 := head8 d.length ++ d ++ List.replicate (sizeN K d.length * K - (8 + d.length)) 0
def cutR (s : Nat) (l : List UInt8) (j : Nat) : List UInt8 := (l.drop (j * s)).take s
/-- The first payloads of a blob. -/
def dataC (K : Nat) (d : List UInt8) : List (List UInt8) := (List.range K).map (cutR (sizeN K d.length) (wholeB K d))
/-- The sums of the products of a matrix's rows and payloads. -/
def sprAt (m l : List (List UInt8)) (i b : Nat) : UInt8 := LA.sum l.length fun j => LA.mul (LA.at_ m i j) (LA.at_ l j b)
def sprM (m l : List (List UInt8)) (s : Nat) : List (List UInt8) := matOf m.length s (sprAt m l)
/-- A blob's payloads. -/
def encM (K N : Nat) (d : List UInt8) : List (List UInt8) := sprM (matOf N K (codeAt K)) (dataC K d) (sizeN K d.length)
def encC (k n : Int) (d : List UInt8) : List ByteArray × Int := if codeB k n then (if 32768 < d.length then ([], 40) else ((encM k.toNat n.toNat d).map strB, 0)) else ([], 1)
section
variable {K m : Nat}
theorem sizeN_mul (hK : 0 < K) : 8 + m ≤ sizeN K m * K ∧ sizeN K m * K < 8 + m + K := by
  unfold sizeN
  have h1 := Nat.div_add_mod (8 + m + K - 1) K
  have h2 := Nat.mod_lt (8 + m + K - 1) hK
  rw [Nat.mul_comm K] at h1
  omega
theorem sizeN_pos (hK : 0 < K) : 1 ≤ sizeN K m := by
  have := sizeN_mul (m := m) hK
  rcases Nat.eq_zero_or_pos (sizeN K m) with h | h
  · rw [h] at this; omega
  · exact h
theorem sizeN_le (hK : 0 < K) : sizeN K m ≤ 8 + m := by
  have h := sizeN_mul (m := m) hK
  rcases Nat.lt_or_ge (8 + m) (sizeN K m) with hlt | hge
  · have h1 : (8 + m + 1) * K ≤ sizeN K m * K := Nat.mul_le_mul_right _ hlt
    have h2 : (8 + m) * 1 ≤ (8 + m) * K := Nat.mul_le_mul_left _ hK
    rw [Nat.add_mul] at h1
    omega
  · exact hge
/-- The least number from there on that K divides. -/
theorem sizeN_least (hK : 0 < K) {a : Nat} (h1 : 8 + m ≤ a) (h2 : a % K = 0) : sizeN K m * K ≤ a := by
  have h := sizeN_mul (m := m) hK
  have h3 := Nat.div_add_mod a K
  rw [h2, Nat.add_zero, Nat.mul_comm] at h3
  rcases Nat.lt_or_ge (a / K) (sizeN K m) with hlt | hge
  · have h4 : (a / K + 1) * K ≤ sizeN K m * K := Nat.mul_le_mul_right _ hlt
    rw [Nat.add_mul] at h4
    omega
  · have h4 : sizeN K m * K ≤ a / K * K := Nat.mul_le_mul_right _ hge
    omega
end
theorem sizeC_bad {k n len : Int} (h : codeB k n = false) : sizeC k n len = (0, 1) := by unfold sizeC; rw [h]; rfl
theorem sizeC_neg {k n len : Int} (h : len < 0) : sizeC k n len = (0, 1) := by unfold sizeC; rw [decide_eq_false (by omega), Bool.and_false]; rfl
theorem sizeC_big {k n len : Int} (h : codeB k n = true) (h1 : 32768 < len) : sizeC k n len = (0, 40) := by unfold sizeC; rw [h, decide_eq_true (by omega), if_pos (by rfl), if_pos h1]
theorem sizeC_yes {K m : Nat} {n : Int} (h : codeB K n = true) (h1 : m ≤ 32768) : sizeC K n m = (((sizeN K m : Nat) : Int), 0) := by
  unfold sizeC
  rw [h, decide_eq_true (by omega), if_pos (by rfl), if_neg (by omega)]; rfl
theorem head8_length (m : Nat) : (head8 m).length = 8 := rfl
theorem whole_length {K : Nat} {d : List UInt8} (hK : 0 < K) : (wholeB K d).length = sizeN K d.length * K := by
  have := sizeN_mul (m := d.length) hK
  unfold wholeB
  rw [List.length_append, List.length_append, head8_length, List.length_replicate]
  omega
theorem cutR_length {s : Nat} {l : List UInt8} {j K : Nat} (hl : l.length = s * K) (hj : j < K) : (cutR s l j).length = s := by
  unfold cutR
  rw [List.length_take, List.length_drop, hl]
  have : (j + 1) * s ≤ K * s := Nat.mul_le_mul_right _ hj
  rw [Nat.add_mul, Nat.mul_comm K] at this
  omega
theorem cutR_at {s : Nat} {l : List UInt8} {j b : Nat} (hb : b < s) : (cutR s l j).getD b 0 = l.getD (j * s + b) 0 := by
  unfold cutR
  rw [List.getD_eq_getElem?_getD, List.getElem?_take, if_pos hb, List.getElem?_drop, List.getD_eq_getElem?_getD]
theorem dataC_length (K : Nat) (d : List UInt8) : (dataC K d).length = K := by unfold dataC; simp
theorem dataC_row {K : Nat} {d : List UInt8} {j : Nat} (hj : j < K) : (dataC K d).getD j [] = cutR (sizeN K d.length) (wholeB K d) j := by
  unfold dataC
  rw [List.getD_eq_getElem?_getD, List.getElem?_map, List.getElem?_range hj]; rfl
theorem dataC_at {K : Nat} {d : List UInt8} {j b : Nat} (hj : j < K) (hb : b < sizeN K d.length) : LA.at_ (dataC K d) j b = (wholeB K d).getD (j * sizeN K d.length + b) 0 := by
  unfold LA.at_
  rw [dataC_row hj, cutR_at hb]
end Go.Proofs.YtllfhaocdknejaaDoor
