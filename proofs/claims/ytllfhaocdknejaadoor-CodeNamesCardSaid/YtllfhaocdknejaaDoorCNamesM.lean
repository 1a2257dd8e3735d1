/- The examples of the closed law CodeNames, as a table, and what Decode and Rebuild tell of each. No program in sight. -/
import Derived.Test.YtllfhaocdknejaaDoorCodeFd
namespace Go.Proofs.YtllfhaocdknejaaDoor
open Go.RowKit
structure Rec5 where
  k : Int
  n : Int
  hv : List Int
  ps : List ByteArray
  e : Int
def okR (l2 : ByteArray) (r : Rec5) : Bool :=
  decide (errD r.k r.n r.hv r.ps = r.e) && (decide (strB ((gotD r.k r.n r.hv r.ps).getD []) = ⟨#[97, 98, 99]⟩) == decide (r.e = 0)) && decide ((rebD r.k r.n r.hv r.ps 2).2 = r.e) && (decide ((rebD r.k r.n r.hv r.ps 2).1 = l2) == decide (r.e = 0)) &&
    r.ps.all (fun p => decide (p.size ≤ 1000)) && r.hv.all (fun x => decide (-10 ≤ x ∧ x ≤ 10))
def tabN (l0 l1 l2 : ByteArray) : List Rec5 := [
  ⟨3, 2, [0, 1], [l0, l1], 1⟩,
  ⟨2, 3, [0], [l0, l1], 1⟩,
  ⟨2, 3, [0, 3], [l0, l1], 1⟩,
  ⟨2, 3, [-1, 0], [l0, l1], 1⟩,
  ⟨2, 3, [], [], 54⟩,
  ⟨2, 3, [2], [l2], 54⟩,
  ⟨2, 3, [0, 1], [l0, l1 ++ ⟨#[0]⟩], 4⟩,
  ⟨2, 3, [0, 1], [⟨#[]⟩, ⟨#[]⟩], 4⟩,
  ⟨2, 3, [0, 1], [⟨#[0, 0]⟩, ⟨#[0, 0]⟩], 4⟩,
  ⟨2, 3, [0, 1], [l0, ⟨#[0, 3, 97, 98, 99, 100]⟩], 4⟩,
  ⟨2, 3, [0, 1], [l0, ⟨#[0, 2, 97, 98, 99, 0]⟩], 4⟩,
  ⟨2, 3, [0, 1], [l0, ⟨#[0, 5, 97, 98, 99, 0]⟩], 4⟩,
  ⟨2, 3, [0, 1], [⟨#[0, 0, 0, 0, 0, 1]⟩, l1], 4⟩,
  ⟨2, 3, [0, 1], [⟨#[128, 0, 0, 0, 0, 0]⟩, l1], 4⟩,
  ⟨2, 3, [0, 1], [l0 ++ ⟨#[0]⟩, l1 ++ ⟨#[0]⟩], 4⟩,
  ⟨2, 3, [0, 1], [⟨#[0, 0, 0, 0, 0, 0, 0]⟩, ⟨#[3, 97, 98, 99, 0, 0, 0]⟩], 4⟩,
  ⟨2, 3, [1, 0], [l1, l0], 0⟩,
  ⟨2, 3, [2, 0], [l2, l0], 0⟩,
  ⟨2, 3, [2, 1, 0], [l2, l1, l0], 0⟩,
  ⟨2, 3, [2, 1, 0], [l2, l1, l1], 4⟩,
  ⟨2, 3, [0, 1, 2], [l0, l1, l1], 4⟩]
def ex0 : ByteArray := ⟨#[0, 0, 0, 0, 0, 0]⟩
def ex1 : ByteArray := ⟨#[0, 3, 97, 98, 99, 0]⟩
def ex2 : ByteArray := ⟨#[0, 1, 212, 213, 33, 0]⟩
theorem tab_ok : (tabN ex0 ex1 ex2).all (okR ex2) = true := by decide +kernel
theorem ex_enc : encC 2 3 (⟨#[97, 98, 99]⟩ : ByteArray).data.toList = ([ex0, ex1, ex2], 0) := by kernel_rfl
theorem ex_bad : encC 3 2 (⟨#[]⟩ : ByteArray).data.toList = ([], 1) := by kernel_rfl
theorem ex_none : encM 12 12 [] = [[0], [0], [0], [0], [0], [0], [0], [0], [0], [0], [0], [0]] := by decide +kernel
theorem ex_empty : encC 12 12 (⟨#[]⟩ : ByteArray).data.toList = (List.replicate 12 ⟨#[0]⟩, 0) := by
  have : encC 12 12 (⟨#[]⟩ : ByteArray).data.toList = ((encM 12 12 []).map strB, 0) := by kernel_rfl
  rw [this, ex_none]; rfl
theorem ex_sizes : sizeC 3 2 1 = (0, 1) ∧ sizeC 2 3 (-1) = (0, 1) ∧ sizeC 2 3 32769 = (0, 40) ∧ sizeC 2 3 32768 = (16388, 0) := by decide +kernel
theorem ex_reb3 : rebD 2 3 [0, 1] [ex0, ex1] 3 = (⟨#[]⟩, 1) := by decide +kernel
theorem ex_rebn : rebD 2 3 [0] [ex0] (-1) = (⟨#[]⟩, 1) := by decide +kernel
def zerosB (n : Nat) : List UInt8 := List.replicate n 0
theorem ex_long : encC 12 12 (strB (zerosB 32768)).data.toList = ((encM 12 12 (zerosB 32768)).map strB, 0) := by
  have hs : (zerosB 32768).length = 32768 := List.length_replicate
  show encC 12 12 (zerosB 32768) = _
  unfold encC
  rw [hs]
  rfl
theorem ex_large : encC 2 3 (strB (zerosB 32769)).data.toList = ([], 40) := by
  have hs : (zerosB 32769).length = 32769 := List.length_replicate
  show encC 2 3 (zerosB 32769) = _
  unfold encC
  rw [hs]
  rfl
theorem zeros_row (w : World) (n : Nat) (hn : n ≤ 100000) : RowAt (w.alloc (.cells (reps n (.int .u8 0)) 5)).heap (.slice (some ⟨w.heap.size, 0, none⟩) n n) (strB (zerosB n)).data.toList := by
  have hl : (zerosB n).length = n := List.length_replicate
  show RowAt _ _ (zerosB n)
  refine seqAt_lit w _ _ _ n n hl (by omega) fun i hi => ⟨.int .u8 0, reps_at _ (by omega), ?_⟩
  show Value.int .u8 0 = .int .u8 ((zerosB n)[i].toNat : Int)
  have e : (zerosB n)[i] = 0 := List.eq_of_mem_replicate (List.getElem_mem hi)
  rw [e]; rfl
theorem mkz_any (n : Nat) (h : n ≤ 100000) (w : World) : ∃ ob, (Instr.makeSlice 39 (.int .i64 (n : Int)) (.int .i64 (n : Int))).run Tryd.prog w = .ok (.slice (some ⟨w.heap.size, 0, none⟩) n n) (w.alloc ob) ∧ RowAt (w.alloc ob).heap (.slice (some ⟨w.heap.size, 0, none⟩) n n) (strB (zerosB n)).data.toList :=
  ⟨_, run_mk 39 5 1 (.int .u8 0) Tryd.underlying39 (by kernel_rfl) rfl n (by omega) (by omega) w, zeros_row w n h⟩
end Go.Proofs.YtllfhaocdknejaaDoor
