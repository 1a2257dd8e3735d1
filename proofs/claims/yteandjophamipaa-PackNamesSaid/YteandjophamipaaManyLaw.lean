/- What the law PackNames asks of long chunks, as plain laws. No program in sight. -/
import Derived.Test.YteandjophamipaaMany
import Derived.Test.YteandjophamipaaLawLong
namespace Go.Proofs.Yteandjophamipaa
open Go.RowKit
theorem manyB_size (n : Nat) (c : UInt8) : (manyB n c).size = n := by unfold manyB; rw [strB_size, List.length_replicate]
theorem manyB_ne (n : Nat) (c d : UInt8) (h : c ≠ d) : manyB (n + 1) c ≠ manyB (n + 1) d := fun e => by
  have := strB_inj e
  rw [List.replicate_succ, List.replicate_succ] at this
  exact h (List.cons.inj this).1
def fullP : List ByteArray := [manyB 2048 97, manyB 2048 98]
def oneP : List ByteArray := [manyB 16384 97]
def cB : ByteArray := ⟨#[99]⟩
def bB : ByteArray := ⟨#[98]⟩
theorem cB_size : cB.size = 1 := rfl
theorem bB_size : bB.size = 1 := rfl
theorem may_big {l : List ByteArray} (h1 : l.length ≠ 1) (h2 : 4096 < total l) : mayP l = false := by
  cases hm : mayP l with
  | false => rfl
  | true => have := (mayP_iff.1 hm).2.2.2; omega
theorem may_full : mayP fullP = true := by
  refine mayP_iff.2 ⟨by decide, fun c hc => ?_, ?_, .inr ?_⟩
  · simp only [fullP, List.mem_cons, List.not_mem_nil, or_false] at hc
    rcases hc with rfl | rfl <;> rw [manyB_size] <;> omega
  · simp only [fullP, List.nodup_cons, List.mem_singleton, List.not_mem_nil, not_false_eq_true, List.nodup_nil, and_true]
    exact manyB_ne 2047 97 98 (by decide)
  · simp [fullP, total, manyB_size]
theorem may_one : mayP oneP = true := by
  refine mayP_iff.2 ⟨by decide, fun c hc => ?_, ?_, .inl rfl⟩
  · simp only [oneP, List.mem_singleton] at hc
    subst hc; rw [manyB_size]; omega
  · simp [oneP]
theorem may_full1 : mayP [manyB 2048 97, manyB 2048 98, cB] = false := may_big (by decide) (by simp [total, manyB_size, cB_size])
theorem may_full2 : mayP [cB, manyB 2048 97, manyB 2048 98] = false := may_big (by decide) (by simp [total, manyB_size, cB_size])
theorem may_one1 : mayP [manyB 16384 97 ++ aB] = false := by
  cases hm : mayP [manyB 16384 97 ++ aB] with
  | false => rfl
  | true =>
    have := ((mayP_iff.1 hm).2.1 _ (List.mem_singleton.2 rfl)).2
    rw [ByteArray.size_append, manyB_size] at this
    have h1 : aB.size = 1 := rfl
    omega
theorem may_one2 : mayP [manyB 16384 97, bB] = false := may_big (by decide) (by simp [total, manyB_size, bB_size])
theorem may_one3 : mayP [bB, manyB 16384 97] = false := may_big (by decide) (by simp [total, manyB_size, bB_size])
theorem one_len : (strB (blobP oneP)).size = 16392 := by rw [strB_size, blob_length]; simp [oneP, total, manyB_size]
theorem one_offs : offsP oneP = [8] := by
  unfold offsP
  show [offP oneP 0] = [8]
  unfold offP
  rw [headP_length]; rfl
theorem make_one : makeP oneP = (strB (blobP oneP), [8], 0) := by rw [makeP_yes may_one, one_offs]
theorem read_one : readP (strB (blobP oneP)).data.toList = (oneP, [8], 0) := by rw [← one_offs]; exact read_make may_one
theorem ok_short {b : List UInt8} (h : b.length < 6 + 2 * cntR b) : okR b = false := okR_from (by
  have h2 : 6 + 2 * cntR b ≤ fromR b (cntR b) := by unfold fromR; omega
  omega)
def badS : List ByteArray := [⟨#[]⟩, ⟨#[112, 97, 107, 49]⟩, ⟨#[112, 97, 107, 50, 0, 1, 0, 1, 97]⟩, ⟨#[112, 97, 107, 49, 0, 1, 0, 1]⟩, ⟨#[112, 97, 107, 49, 0, 1, 0, 1, 97, 98]⟩, ⟨#[112, 97, 107, 49, 0, 1, 0, 0]⟩, ⟨#[112, 97, 107, 49, 0, 1, 0]⟩, ⟨#[112, 97, 107, 49, 0, 2, 0, 1, 0, 1, 97, 97]⟩, ⟨#[112, 97, 107, 49, 0, 2, 0, 1, 97]⟩, ⟨#[112, 97, 107, 49, 255, 255]⟩, ⟨#[112, 97, 107, 49, 0, 1, 255, 255, 97]⟩, ⟨#[80, 97, 107, 49, 0, 1, 0, 1, 97]⟩]
theorem bad_read : ∀ s ∈ badS, readP s.data.toList = ([], [], 4) := by
  intro s hs
  simp only [badS, List.mem_cons, List.not_mem_nil, or_false] at hs
  rcases hs with rfl | rfl | rfl | rfl | rfl | rfl | rfl | rfl | rfl | rfl | rfl | rfl
  case inr.inr.inr.inr.inr.inr.inr.inr.inr.inl =>
    refine readP_err (.inl (ok_short ?_))
    have h1 : cntR (⟨#[112, 97, 107, 49, 255, 255]⟩ : ByteArray).data.toList = 65535 := by decide +kernel
    have h2 : (⟨#[112, 97, 107, 49, 255, 255]⟩ : ByteArray).data.toList.length = 6 := rfl
    rw [h1, h2]; decide
  all_goals decide +kernel
theorem read_last : readP [112, 97, 107, 49, 0, 2, 0, 1, 0, 1, 98, 97] = ([bB, aB], [10, 11], 0) := by decide +kernel
end Go.Proofs.Yteandjophamipaa
