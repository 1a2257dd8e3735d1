/- What package pack tells, as plain functions on lists of texts. No program in sight. -/
import Derived.Test.YteandjophamipaaText
namespace Go.Proofs.Yteandjophamipaa
open Go.RowKit
/-- How many bytes chunks have. -/
def total (l : List ByteArray) : Nat := (l.map ByteArray.size).sum
def atP (l : List ByteArray) (k : Nat) : ByteArray := l.getD k ByteArray.empty
/-- Is a text among others? -/
def hasT (l : List ByteArray) (c : ByteArray) : Bool := l.any fun x => decide (x = c)
theorem hasT_iff {l : List ByteArray} {c : ByteArray} : hasT l c = true ↔ c ∈ l := by
  unfold hasT
  rw [List.any_eq_true]
  constructor
  · rintro ⟨x, hx, e⟩; rw [← of_decide_eq_true e]; exact hx
  · intro h; exact ⟨c, h, decide_eq_true rfl⟩
/-- Is chunk k one, and none of those ahead of it? -/
def chunkOk (l : List ByteArray) (k : Nat) : Bool := decide (1 ≤ (atP l k).size ∧ (atP l k).size ≤ 16384) && !hasT (l.take k) (atP l k)
def chunksOk (l : List ByteArray) (k : Nat) : Bool := (List.range k).all (chunkOk l)
/-- May chunks be a pack? -/
def mayP (l : List ByteArray) : Bool := decide (1 ≤ l.length) && chunksOk l l.length && (decide (l.length = 1) || decide (total l ≤ 4096))
theorem atP_get {l : List ByteArray} {k : Nat} (h : k < l.length) : atP l k = l[k] := by
  unfold atP; rw [List.getD_eq_getElem?_getD, List.getElem?_eq_getElem h]; rfl
theorem take_snoc {l : List ByteArray} {k : Nat} (h : k < l.length) : l.take (k + 1) = l.take k ++ [atP l k] := by
  rw [atP_get h]; exact (List.take_append_getElem h).symm
theorem total_snoc (l : List ByteArray) (c : ByteArray) : total (l ++ [c]) = total l + c.size := by unfold total; simp
theorem total_take {l : List ByteArray} {k : Nat} (h : k < l.length) : total (l.take (k + 1)) = total (l.take k) + (atP l k).size := by rw [take_snoc h, total_snoc]
theorem total_le (l : List ByteArray) (k : Nat) : total (l.take k) ≤ total l := by
  unfold total
  rw [List.map_take]
  conv => rhs; rw [← List.take_append_drop k (l.map ByteArray.size)]
  rw [List.sum_append]; omega
theorem chunksOk_succ (l : List ByteArray) (k : Nat) : chunksOk l (k + 1) = (chunksOk l k && chunkOk l k) := by
  unfold chunksOk; rw [List.range_succ, List.all_append]; simp
theorem chunksOk_mono {l : List ByteArray} {k n : Nat} (h : chunksOk l n = true) (hk : k ≤ n) : chunksOk l k = true := by
  unfold chunksOk at *
  rw [List.all_eq_true] at *
  exact fun i hi => h i (List.mem_range.2 (by have := List.mem_range.1 hi; omega))
theorem chunkOk_of {l : List ByteArray} {k n : Nat} (h : chunksOk l n = true) (hk : k < n) : chunkOk l k = true := by
  unfold chunksOk at h
  rw [List.all_eq_true] at h
  exact h k (List.mem_range.2 hk)
theorem chunkOk_iff {l : List ByteArray} {k : Nat} : chunkOk l k = true ↔ 1 ≤ (atP l k).size ∧ (atP l k).size ≤ 16384 ∧ atP l k ∉ l.take k := by
  unfold chunkOk
  rw [Bool.and_eq_true, decide_eq_true_eq, Bool.not_eq_true', ← Bool.not_eq_true, hasT_iff, and_assoc]
theorem total_ge {l : List ByteArray} {n : Nat} (h : chunksOk l n = true) (hn : n ≤ l.length) : n ≤ total (l.take n) := by
  induction n with
  | zero => omega
  | succ n ih =>
    have h1 := ih (chunksOk_mono h (by omega)) (by omega)
    have h2 := (chunkOk_iff.1 (chunkOk_of h (Nat.lt_succ_self n))).1
    rw [total_take (by omega)]; omega
/-- A chunk that may not be. -/
theorem mayP_chunk {l : List ByteArray} {k : Nat} (hk : k < l.length) (h : chunkOk l k = false) : mayP l = false := by
  cases hm : mayP l with
  | false => rfl
  | true =>
    unfold mayP at hm
    simp only [Bool.and_eq_true] at hm
    rw [chunkOk_of hm.1.2 hk] at h; cases h
/-- More bytes than may be, ahead of a chunk. -/
theorem mayP_total {l : List ByteArray} {k : Nat} (hk : k < l.length) (h : 4096 < total (l.take k)) : mayP l = false := by
  have hk0 : 0 < k := by
    rcases Nat.eq_zero_or_pos k with e | e
    · subst e; simp [total] at h
    · exact e
  have := total_le l k
  unfold mayP
  rw [decide_eq_false (p := l.length = 1) (by omega), decide_eq_false (p := total l ≤ 4096) (by omega)]; simp
theorem mayP_none : mayP [] = false := rfl
theorem mayP_all {l : List ByteArray} (h : chunksOk l l.length = true) (h1 : 1 ≤ l.length) : mayP l = (decide (l.length = 1) || decide (total l ≤ 4096)) := by
  unfold mayP; rw [h, decide_eq_true h1]; simp
theorem mayP_many {l : List ByteArray} (h : 4096 < l.length) : mayP l = false := by
  cases hm : mayP l with
  | false => rfl
  | true =>
    have h2 := hm
    unfold mayP at h2
    simp only [Bool.and_eq_true, Bool.or_eq_true, decide_eq_true_eq] at h2
    have := total_ge h2.1.2 (Nat.le_refl _)
    rw [List.take_length] at this
    omega

/-- A number's two bytes. -/
def num2 (n : Nat) : List UInt8 := [UInt8.ofNat (n / 256), UInt8.ofNat n]
def nums (l : List ByteArray) : List UInt8 := l.flatMap fun c => num2 c.size
def joinP (l : List ByteArray) : List UInt8 := l.flatMap fun c => c.data.toList
def headP (l : List ByteArray) : List UInt8 := [112, 97, 107, 49] ++ num2 l.length ++ nums l
def blobP (l : List ByteArray) : List UInt8 := headP l ++ joinP l
def offP (l : List ByteArray) (k : Nat) : Int := ((headP l).length + total (l.take k) : Nat)
def offsP (l : List ByteArray) : List Int := (List.range l.length).map (offP l)
/-- A pack's blob, where its chunks stand, and an error's number. -/
def makeP (l : List ByteArray) : ByteArray × List Int × Int := if mayP l then (strB (blobP l), offsP l, 0) else (ByteArray.empty, [], 4)
theorem joinP_snoc (l : List ByteArray) (c : ByteArray) : joinP (l ++ [c]) = joinP l ++ c.data.toList := by unfold joinP; simp
theorem nums_snoc (l : List ByteArray) (c : ByteArray) : nums (l ++ [c]) = nums l ++ num2 c.size := by unfold nums; simp
theorem joinP_length (l : List ByteArray) : (joinP l).length = total l := by
  unfold joinP total
  rw [List.length_flatMap]
  congr 1
theorem nums_length (l : List ByteArray) : (nums l).length = 2 * l.length := by
  unfold nums
  rw [List.length_flatMap]
  induction l with
  | nil => rfl
  | cons c l ih => simp only [List.map_cons, List.sum_cons, List.length_cons, ih]; unfold num2; simp; omega
theorem headP_length (l : List ByteArray) : (headP l).length = 6 + 2 * l.length := by
  unfold headP; simp [nums_length, num2]; omega
def GiveP (w : World) (r : ByteArray × List Int × Int) (e : Ending) (w' : World) : Prop :=
  ∃ v, e = .returned (.tuple #[.string r.1, v, .int .i64 r.2.2]) ∧ SeqIn (w.heap.size ≤ ·) 3 IsInt w'.heap v r.2.1 ∧ Keeps w w'
theorem GiveP.err {w w' : World} {r : Int} (k : Keeps w w') : GiveP w (ByteArray.empty, [], r) (.returned (.tuple #[.string ByteArray.empty, .slice none 0 0, .int .i64 r])) w' := ⟨_, rfl, SeqIn.nil _ _ _ _, k⟩
end Go.Proofs.Yteandjophamipaa
