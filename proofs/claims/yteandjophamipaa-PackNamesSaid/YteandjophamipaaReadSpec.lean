/- What the bytes of a pack say, as plain functions. No program in sight. -/
import Derived.Test.YteandjophamipaaPackSpec
namespace Go.Proofs.Yteandjophamipaa
open Go.RowKit
def byteAt (b : List UInt8) (i : Nat) : Nat := (b.getD i 0).toNat
/-- The number of two bytes. -/
def num (b : List UInt8) (i : Nat) : Nat := byteAt b i * 256 + byteAt b (i + 1)
theorem byteAt_lt (b : List UInt8) (i : Nat) : byteAt b i < 256 := (b.getD i 0).toNat_lt
theorem num_lt (b : List UInt8) (i : Nat) : num b i < 65536 := by have := byteAt_lt b i; have := byteAt_lt b (i + 1); unfold num; omega
def cntR (b : List UInt8) : Nat := num b 4
def sizeR (b : List UInt8) (i : Nat) : Nat := num b (6 + 2 * i)
/-- How many bytes the first k chunks have. -/
def sumR (b : List UInt8) : Nat → Nat
  | 0 => 0
  | k + 1 => sumR b k + sizeR b k
def fromR (b : List UInt8) (k : Nat) : Nat := 6 + 2 * cntR b + sumR b k
def chunkR (b : List UInt8) (i : Nat) : ByteArray := strB ((b.drop (fromR b i)).take (sizeR b i))
def chunksR (b : List UInt8) (k : Nat) : List ByteArray := (List.range k).map (chunkR b)
def headB : List UInt8 := [112, 97, 107, 49]
def okR (b : List UInt8) : Bool := decide (6 ≤ b.length) && decide (b.take 4 = headB) && decide (fromR b (cntR b) = b.length)
/-- The chunks of a pack, where they stand, and an error's number. -/
def readP (b : List UInt8) : List ByteArray × List Int × Int :=
  if okR b && mayP (chunksR b (cntR b)) then (chunksR b (cntR b), offsP (chunksR b (cntR b)), 0) else ([], [], 4)
theorem chunksR_length (b : List UInt8) (k : Nat) : (chunksR b k).length = k := by unfold chunksR; simp
theorem chunksR_succ (b : List UInt8) (k : Nat) : chunksR b (k + 1) = chunksR b k ++ [chunkR b k] := by unfold chunksR; rw [List.range_succ, List.map_append]; rfl
theorem sumR_mono (b : List UInt8) {i k : Nat} (h : i ≤ k) : sumR b i ≤ sumR b k := by
  induction k with
  | zero => have : i = 0 := by omega
            subst this; exact Nat.le_refl _
  | succ k ih =>
    rcases Nat.lt_or_ge i (k + 1) with h' | h'
    · have := ih (by omega); show _ ≤ sumR b k + _; omega
    · have : i = k + 1 := by omega
      subst this; exact Nat.le_refl _
theorem chunkR_size {b : List UInt8} {i : Nat} (h : fromR b (i + 1) ≤ b.length) : (chunkR b i).size = sizeR b i := by
  unfold chunkR
  rw [strB_size, List.length_take, List.length_drop]
  have : fromR b (i + 1) = fromR b i + sizeR b i := by unfold fromR; show _ + (sumR b i + _) = _; omega
  omega
theorem chunksR_total {b : List UInt8} : ∀ {k : Nat}, fromR b k ≤ b.length → total (chunksR b k) = sumR b k
  | 0, _ => rfl
  | k + 1, h => by
    have h1 : fromR b k ≤ b.length := by
      have := sumR_mono b (show k ≤ k + 1 by omega)
      unfold fromR at h ⊢; omega
    rw [chunksR_succ, total_snoc, chunksR_total h1, chunkR_size h]; rfl
theorem chunksR_take (b : List UInt8) {k n : Nat} (h : k ≤ n) : (chunksR b n).take k = chunksR b k := by
  unfold chunksR
  rw [← List.map_take, List.take_range, Nat.min_eq_left h]
theorem chunksR_join {b : List UInt8} : ∀ {k : Nat}, fromR b k ≤ b.length → joinP (chunksR b k) = (b.drop (6 + 2 * cntR b)).take (sumR b k)
  | 0, _ => by simp [chunksR, joinP, sumR]
  | k + 1, h => by
    have h1 : fromR b k ≤ b.length := by
      have := sumR_mono b (show k ≤ k + 1 by omega)
      unfold fromR at h ⊢; omega
    rw [chunksR_succ, joinP_snoc, chunksR_join h1]
    show _ ++ (strB _).data.toList = (b.drop (6 + 2 * cntR b)).take (sumR b k + sizeR b k)
    rw [List.take_add, List.drop_drop]
    rfl
theorem num2_num (b : List UInt8) (i : Nat) : num2 (num b i) = [b.getD i 0] ++ [b.getD (i + 1) 0] := by
  have h1 := byteAt_lt b i
  have h2 := byteAt_lt b (i + 1)
  unfold num2 num
  have e1 : (byteAt b i * 256 + byteAt b (i + 1)) / 256 = byteAt b i := by omega
  rw [e1]
  have e2 : UInt8.ofNat (byteAt b i * 256 + byteAt b (i + 1)) = UInt8.ofNat (byteAt b (i + 1)) := by
    apply UInt8.toNat_inj.1
    rw [UInt8.toNat_ofNat', UInt8.toNat_ofNat']; omega
  rw [e2]
  unfold byteAt
  rw [UInt8.ofNat_toNat, UInt8.ofNat_toNat]; rfl
theorem nums_R {b : List UInt8} : ∀ {k : Nat}, fromR b k ≤ b.length → 6 + 2 * k ≤ b.length → nums (chunksR b k) = (b.drop 6).take (2 * k)
  | 0, _, _ => by simp [chunksR, nums]
  | k + 1, h, h2 => by
    have h1 : fromR b k ≤ b.length := by
      have := sumR_mono b (show k ≤ k + 1 by omega)
      unfold fromR at h ⊢; omega
    rw [chunksR_succ, nums_snoc, nums_R h1 (by omega), chunkR_size h]
    have e : 2 * (k + 1) = 2 * k + 1 + 1 := by omega
    have l1 : 2 * k < (b.drop 6).length := by rw [List.length_drop]; omega
    have l2 : 2 * k + 1 < (b.drop 6).length := by rw [List.length_drop]; omega
    rw [e, ← List.take_append_getElem l2, ← List.take_append_getElem l1, List.append_assoc]
    congr 1
    have e1 : (b.drop 6)[2 * k] = b.getD (6 + 2 * k) 0 := by rw [List.getElem_drop, List.getD_eq_getElem?_getD, List.getElem?_eq_getElem (by omega)]; rfl
    have e2 : (b.drop 6)[2 * k + 1] = b.getD (6 + 2 * k + 1) 0 := by rw [List.getElem_drop, List.getD_eq_getElem?_getD, List.getElem?_eq_getElem (by omega)]; rfl
    rw [e1, e2]
    exact num2_num b (6 + 2 * k)
theorem okR_iff {b : List UInt8} : okR b = true ↔ 6 ≤ b.length ∧ b.take 4 = headB ∧ fromR b (cntR b) = b.length := by
  unfold okR; simp [and_assoc]
/-- The chunks that bytes say are the pack's. -/
theorem blob_R {b : List UInt8} (h : okR b = true) : blobP (chunksR b (cntR b)) = b := by
  obtain ⟨h1, h2, h3⟩ := okR_iff.1 h
  have hn : 6 + 2 * cntR b ≤ b.length := by unfold fromR at h3; omega
  unfold blobP headP
  rw [chunksR_length, nums_R (by omega) hn, chunksR_join (by omega)]
  have e1 : num2 (cntR b) = (b.drop 4).take 2 := by
    unfold cntR
    rw [show num2 (num b 4) = [b.getD 4 0] ++ [b.getD (4 + 1) 0] from num2_num b 4]
    have l1 : 0 < (b.drop 4).length := by rw [List.length_drop]; omega
    have l2 : 0 + 1 < (b.drop 4).length := by rw [List.length_drop]; omega
    rw [show (2 : Nat) = 0 + 1 + 1 from rfl, ← List.take_append_getElem l2, ← List.take_append_getElem l1]
    have e1 : (b.drop 4)[0] = b.getD 4 0 := by rw [List.getElem_drop, List.getD_eq_getElem?_getD, List.getElem?_eq_getElem (by omega)]; rfl
    have e2 : (b.drop 4)[0 + 1] = b.getD (4 + 1) 0 := by rw [List.getElem_drop, List.getD_eq_getElem?_getD, List.getElem?_eq_getElem (by omega)]; rfl
    rw [e1, e2]; rfl
  have e2 : sumR b (cntR b) = (b.drop (6 + 2 * cntR b)).length := by rw [List.length_drop]; unfold fromR at h3; omega
  rw [e2, List.take_length, e1]
  have e3 : [112, 97, 107, 49] = b.take 4 := h2.symm
  rw [e3]
  have t1 : b.take 4 ++ (b.drop 4).take 2 = b.take 6 := (List.take_add (l := b) (i := 4) (j := 2)).symm
  have t2 : b.take 6 ++ (b.drop 6).take (2 * cntR b) = b.take (6 + 2 * cntR b) := (List.take_add (l := b) (i := 6) (j := 2 * cntR b)).symm
  rw [t1, t2, List.take_append_drop]
theorem blob_length (l : List ByteArray) : (blobP l).length = 6 + 2 * l.length + total l := by
  unfold blobP; rw [List.length_append, headP_length, joinP_length]
theorem offP_R {b : List UInt8} {k : Nat} (hk : k ≤ cntR b) (h : fromR b k ≤ b.length) : offP (chunksR b (cntR b)) k = (fromR b k : Int) := by
  unfold offP
  rw [headP_length, chunksR_length, chunksR_take b hk, chunksR_total h]; rfl
end Go.Proofs.Yteandjophamipaa
