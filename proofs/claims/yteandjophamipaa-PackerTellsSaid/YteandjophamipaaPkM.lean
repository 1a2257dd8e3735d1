/- What package pack tells, as plain functions on lists of texts. No program in sight. -/
import Derived.Test.YteandjophamipaaText
namespace Go.Proofs.Yteandjophamipaa
open Go.RowKit
/-- How many bytes chunks have. -/
def total (l : List ByteArray) : Nat := (l.map ByteArray.size).sum
def atP (l : List ByteArray) (k : Nat) : ByteArray := l.getD k ByteArray.empty
/-- Is a text among others? -/
def hasT (l : List ByteArray) (c : ByteArray) : Bool := l.any fun x => decide (x = c)
theorem hasT_iff {l : List ByteArray} {c : ByteArray} : hasT l c = true ↔ c ∈ l := by
  unfold hasT
  rw [List.any_eq_true]
  constructor
  · rintro ⟨x, hx, e⟩; rw [← of_decide_eq_true e]; exact hx
  · intro h; exact ⟨c, h, decide_eq_true rfl⟩
/-- Is chunk k one, and none of those ahead of it? -/
def chunkOk (l : List ByteArray) (k : Nat) : Bool := decide (1 ≤ (atP l k).size ∧ (atP l k).size ≤ 16384) && !hasT (l.take k) (atP l k)
def chunksOk (l : List ByteArray) (k : Nat) : Bool := (List.range k).all (chunkOk l)
/-- May chunks be a pack? -/
def mayP (l : List ByteArray) : Bool := decide (1 ≤ l.length) && chunksOk l l.length && (decide (l.length = 1) || decide (total l ≤ 4096))
theorem atP_get {l : List ByteArray} {k : Nat} (h : k < l.length) : atP l k = l[k] := by
  unfold atP; rw [List.getD_eq_getElem?_getD, List.getElem?_eq_getElem h]; rfl
theorem take_snoc {l : List ByteArray} {k : Nat} (h : k < l.length) : l.take (k + 1) = l.take k ++ [atP l k] := by
  rw [atP_get h]; exact (List.take_append_getElem h).symm
theorem total_snoc (l : List ByteArray) (c : ByteArray) : total (l ++ [c]) = total l + c.size := by unfold total; simp
theorem total_take {l : List ByteArray} {k : Nat} (h : k < l.length) : total (l.take (k + 1)) = total (l.take k) + (atP l k).size := by rw [take_snoc h, total_snoc]
theorem total_le (l : List ByteArray) (k : Nat) : total (l.take k) ≤ total l := by
  unfold total
  rw [List.map_take]
  conv => rhs; rw [← List.take_append_drop k (l.map ByteArray.size)]
  rw [List.sum_append]; omega
theorem chunksOk_succ (l : List ByteArray) (k : Nat) : chunksOk l (k + 1) = (chunksOk l k && chunkOk l k) := by
  unfold chunksOk; rw [List.range_succ, List.all_append]; simp
theorem chunksOk_mono {l : List ByteArray} {k n : Nat} (h : chunksOk l n = true) (hk : k ≤ n) : chunksOk l k = true := by
  unfold chunksOk at *
  rw [List.all_eq_true] at *
  exact fun i hi => h i (List.mem_range.2 (by have := List.mem_range.1 hi; omega))
theorem chunkOk_of {l : List ByteArray} {k n : Nat} (h : chunksOk l n = true) (hk : k < n) : chunkOk l k = true := by
  unfold chunksOk at h
  rw [List.all_eq_true] at h
  exact h k (List.mem_range.2 hk)
theorem chunkOk_iff {l : List ByteArray} {k : Nat} : chunkOk l k = true ↔ 1 ≤ (atP l k).size ∧ (atP l k).size ≤ 16384 ∧ atP l k ∉ l.take k := by
  unfold chunkOk
  rw [Bool.and_eq_true, decide_eq_true_eq, Bool.not_eq_true', ← Bool.not_eq_true, hasT_iff, and_assoc]
theorem total_ge {l : List ByteArray} {n : Nat} (h : chunksOk l n = true) (hn : n ≤ l.length) : n ≤ total (l.take n) := by
  induction n with
  | zero => omega
  | succ n ih =>
    have h1 := ih (chunksOk_mono h (by omega)) (by omega)
    have h2 := (chunkOk_iff.1 (chunkOk_of h (Nat.lt_succ_self n))).1
    rw [total_take (by omega)]; omega
/-- A chunk that may not be. -/
theorem mayP_chunk {l : List ByteArray} {k : Nat} (hk : k < l.length) (h : chunkOk l k = false) : mayP l = false := by
  cases hm : mayP l with
  | false => rfl
  | true =>
    unfold mayP at hm
    simp only [Bool.and_eq_true] at hm
    rw [chunkOk_of hm.1.2 hk] at h; cases h
/-- More bytes than may be, ahead of a chunk. -/
theorem mayP_total {l : List ByteArray} {k : Nat} (hk : k < l.length) (h : 4096 < total (l.take k)) : mayP l = false := by
  have hk0 : 0 < k := by
    rcases Nat.eq_zero_or_pos k with e | e
    · subst e; simp [total] at h
    · exact e
  have := total_le l k
  unfold mayP
  rw [decide_eq_false (p := l.length = 1) (by omega), decide_eq_false (p := total l ≤ 4096) (by omega)]; simp
theorem mayP_none : mayP [] = false := rfl
theorem mayP_all {l : List ByteArray} (h : chunksOk l l.length = true) (h1 : 1 ≤ l.length) : mayP l = (decide (l.length = 1) || decide (total l ≤ 4096)) := by
  unfold mayP; rw [h, decide_eq_true h1]; simp
theorem mayP_many {l : List ByteArray} (h : 4096 < l.length) : mayP l = false := by
  cases hm : mayP l with
  | false => rfl
  | true =>
    have h2 := hm
    unfold mayP at h2
    simp only [Bool.and_eq_true, Bool.or_eq_true, decide_eq_true_eq] at h2
    have := total_ge h2.1.2 (Nat.le_refl _)
    rw [List.take_length] at this
    omega

/-- A number's two bytes. -/
def num2 (n : Nat) : List UInt8 := [UInt8.ofNat (n / 256), UInt8.ofNat n]
def nums (l : List ByteArray) : List UInt8 := l.flatMap fun c => num2 c.size
def joinP (l : List ByteArray) : List UInt8 := l.flatMap fun c => c.data.toList
def headP (l : List ByteArray) : List UInt8 := [112, 97, 107, 49] ++ num2 l.length ++ nums l
def blobP (l : List ByteArray) : List UInt8 := headP l ++ joinP l
def offP (l : List ByteArray) (k : Nat) : Int := ((headP l).length + total (l.take k) : Nat)
def offsP (l : List ByteArray) : List Int := (List.range l.length).map (offP l)
/-- A pack's blob, where its chunks stand, and an error's number. -/
def makeP (l : List ByteArray) : ByteArray × List Int × Int := if mayP l then (strB (blobP l), offsP l, 0) else (ByteArray.empty, [], 4)
theorem joinP_snoc (l : List ByteArray) (c : ByteArray) : joinP (l ++ [c]) = joinP l ++ c.data.toList := by unfold joinP; simp
theorem nums_snoc (l : List ByteArray) (c : ByteArray) : nums (l ++ [c]) = nums l ++ num2 c.size := by unfold nums; simp
theorem joinP_length (l : List ByteArray) : (joinP l).length = total l := by
  unfold joinP total
  rw [List.length_flatMap]
  congr 1
theorem nums_length (l : List ByteArray) : (nums l).length = 2 * l.length := by
  unfold nums
  rw [List.length_flatMap]
  induction l with
  | nil => rfl
  | cons c l ih => simp only [List.map_cons, List.sum_cons, List.length_cons, ih]; unfold num2; simp; omega
theorem headP_length (l : List ByteArray) : (headP l).length = 6 + 2 * l.length := by
  unfold headP; simp [nums_length, num2]; omega
def GiveP (w : World) (r : ByteArray × List Int × Int) (e : Ending) (w' : World) : Prop :=
  ∃ v, e = .returned (.tuple #[.string r.1, v, .int .i64 r.2.2]) ∧ SeqIn (w.heap.size ≤ ·) 3 IsInt w'.heap v r.2.1 ∧ Keeps w w'
theorem GiveP.err {w w' : World} {r : Int} (k : Keeps w w') : GiveP w (ByteArray.empty, [], r) (.returned (.tuple #[.string ByteArray.empty, .slice none 0 0, .int .i64 r])) w' := ⟨_, rfl, SeqIn.nil _ _ _ _, k⟩
end Go.Proofs.Yteandjophamipaa
/- What the bytes of a pack say, as plain functions. No program in sight. -/
namespace Go.Proofs.Yteandjophamipaa
open Go.RowKit
def byteAt (b : List UInt8) (i : Nat) : Nat := (b.getD i 0).toNat
/-- The number of two bytes. -/
def num (b : List UInt8) (i : Nat) : Nat := byteAt b i * 256 + byteAt b (i + 1)
theorem byteAt_lt (b : List UInt8) (i : Nat) : byteAt b i < 256 := (b.getD i 0).toNat_lt
theorem num_lt (b : List UInt8) (i : Nat) : num b i < 65536 := by have := byteAt_lt b i; have := byteAt_lt b (i + 1); unfold num; omega
def cntR (b : List UInt8) : Nat := num b 4
def sizeR (b : List UInt8) (i : Nat) : Nat := num b (6 + 2 * i)
/-- How many bytes the first k chunks have. -/
def sumR (b : List UInt8) : Nat → Nat
  | 0 => 0
  | k + 1 => sumR b k + sizeR b k
def fromR (b : List UInt8) (k : Nat) : Nat := 6 + 2 * cntR b + sumR b k
def chunkR (b : List UInt8) (i : Nat) : ByteArray := strB ((b.drop (fromR b i)).take (sizeR b i))
def chunksR (b : List UInt8) (k : Nat) : List ByteArray := (List.range k).map (chunkR b)
def headB : List UInt8 := [112, 97, 107, 49]
def okR (b : List UInt8) : Bool := decide (6 ≤ b.length) && decide (b.take 4 = headB) && decide (fromR b (cntR b) = b.length)
/-- The chunks of a pack, where they stand, and an error's number. -/
def readP (b : List UInt8) : List ByteArray × List Int × Int :=
  if okR b && mayP (chunksR b (cntR b)) then (chunksR b (cntR b), offsP (chunksR b (cntR b)), 0) else ([], [], 4)
theorem chunksR_length (b : List UInt8) (k : Nat) : (chunksR b k).length = k := by unfold chunksR; simp
theorem chunksR_succ (b : List UInt8) (k : Nat) : chunksR b (k + 1) = chunksR b k ++ [chunkR b k] := by unfold chunksR; rw [List.range_succ, List.map_append]; rfl
theorem sumR_mono (b : List UInt8) {i k : Nat} (h : i ≤ k) : sumR b i ≤ sumR b k := by
  induction k with
  | zero => have : i = 0 := by omega
            subst this; exact Nat.le_refl _
  | succ k ih =>
    rcases Nat.lt_or_ge i (k + 1) with h' | h'
    · have := ih (by omega); show _ ≤ sumR b k + _; omega
    · have : i = k + 1 := by omega
      subst this; exact Nat.le_refl _
theorem chunkR_size {b : List UInt8} {i : Nat} (h : fromR b (i + 1) ≤ b.length) : (chunkR b i).size = sizeR b i := by
  unfold chunkR
  rw [strB_size, List.length_take, List.length_drop]
  have : fromR b (i + 1) = fromR b i + sizeR b i := by unfold fromR; show _ + (sumR b i + _) = _; omega
  omega
theorem chunksR_total {b : List UInt8} : ∀ {k : Nat}, fromR b k ≤ b.length → total (chunksR b k) = sumR b k
  | 0, _ => rfl
  | k + 1, h => by
    have h1 : fromR b k ≤ b.length := by
      have := sumR_mono b (show k ≤ k + 1 by omega)
      unfold fromR at h ⊢; omega
    rw [chunksR_succ, total_snoc, chunksR_total h1, chunkR_size h]; rfl
theorem chunksR_take (b : List UInt8) {k n : Nat} (h : k ≤ n) : (chunksR b n).take k = chunksR b k := by
  unfold chunksR
  rw [← List.map_take, List.take_range, Nat.min_eq_left h]
theorem chunksR_join {b : List UInt8} : ∀ {k : Nat}, fromR b k ≤ b.length → joinP (chunksR b k) = (b.drop (6 + 2 * cntR b)).take (sumR b k)
  | 0, _ => by simp [chunksR, joinP, sumR]
  | k + 1, h => by
    have h1 : fromR b k ≤ b.length := by
      have := sumR_mono b (show k ≤ k + 1 by omega)
      unfold fromR at h ⊢; omega
    rw [chunksR_succ, joinP_snoc, chunksR_join h1]
    show _ ++ (strB _).data.toList = (b.drop (6 + 2 * cntR b)).take (sumR b k + sizeR b k)
    rw [List.take_add, List.drop_drop]
    rfl
theorem num2_num (b : List UInt8) (i : Nat) : num2 (num b i) = [b.getD i 0] ++ [b.getD (i + 1) 0] := by
  have h1 := byteAt_lt b i
  have h2 := byteAt_lt b (i + 1)
  unfold num2 num
  have e1 : (byteAt b i * 256 + byteAt b (i + 1)) / 256 = byteAt b i := by omega
  rw [e1]
  have e2 : UInt8.ofNat (byteAt b i * 256 + byteAt b (i + 1)) = UInt8.ofNat (byteAt b (i + 1)) := by
    apply UInt8.toNat_inj.1
    rw [UInt8.toNat_ofNat', UInt8.toNat_ofNat']; omega
  rw [e2]
  unfold byteAt
  rw [UInt8.ofNat_toNat, UInt8.ofNat_toNat]; rfl
theorem nums_R {b : List UInt8} : ∀ {k : Nat}, fromR b k ≤ b.length → 6 + 2 * k ≤ b.length → nums (chunksR b k) = (b.drop 6).take (2 * k)
  | 0, _, _ => by simp [chunksR, nums]
  | k + 1, h, h2 => by
    have h1 : fromR b k ≤ b.length := by
      have := sumR_mono b (show k ≤ k + 1 by omega)
      unfold fromR at h ⊢; omega
    rw [chunksR_succ, nums_snoc, nums_R h1 (by omega), chunkR_size h]
    have e : 2 * (k + 1) = 2 * k + 1 + 1 := by omega
    have l1 : 2 * k < (b.drop 6).length := by rw [List.length_drop]; omega
    have l2 : 2 * k + 1 < (b.drop 6).length := by rw [List.length_drop]; omega
    rw [e, ← List.take_append_getElem l2, ← List.take_append_getElem l1, List.append_assoc]
    congr 1
    have e1 : (b.drop 6)[2 * k] = b.getD (6 + 2 * k) 0 := by rw [List.getElem_drop, List.getD_eq_getElem?_getD, List.getElem?_eq_getElem (by omega)]; rfl
    have e2 : (b.drop 6)[2 * k + 1] = b.getD (6 + 2 * k + 1) 0 := by rw [List.getElem_drop, List.getD_eq_getElem?_getD, List.getElem?_eq_getElem (by omega)]; rfl
    rw [e1, e2]
    exact num2_num b (6 + 2 * k)
theorem okR_iff {b : List UInt8} : okR b = true ↔ 6 ≤ b.length ∧ b.take 4 = headB ∧ fromR b (cntR b) = b.length := by
  unfold okR; simp [and_assoc]
/-- The chunks that bytes say are the pack's. -/
theorem blob_R {b : List UInt8} (h : okR b = true) : blobP (chunksR b (cntR b)) = b := by
  obtain ⟨h1, h2, h3⟩ := okR_iff.1 h
  have hn : 6 + 2 * cntR b ≤ b.length := by unfold fromR at h3; omega
  unfold blobP headP
  rw [chunksR_length, nums_R (by omega) hn, chunksR_join (by omega)]
  have e1 : num2 (cntR b) = (b.drop 4).take 2 := by
    unfold cntR
    rw [show num2 (num b 4) = [b.getD 4 0] ++ [b.getD (4 + 1) 0] from num2_num b 4]
    have l1 : 0 < (b.drop 4).length := by rw [List.length_drop]; omega
    have l2 : 0 + 1 < (b.drop 4).length := by rw [List.length_drop]; omega
    rw [show (2 : Nat) = 0 + 1 + 1 from rfl, ← List.take_append_getElem l2, ← List.take_append_getElem l1]
    have e1 : (b.drop 4)[0] = b.getD 4 0 := by rw [List.getElem_drop, List.getD_eq_getElem?_getD, List.getElem?_eq_getElem (by omega)]; rfl
    have e2 : (b.drop 4)[0 + 1] = b.getD (4 + 1) 0 := by rw [List.getElem_drop, List.getD_eq_getElem?_getD, List.getElem?_eq_getElem (by omega)]; rfl
    rw [e1, e2]; rfl
  have e2 : sumR b (cntR b) = (b.drop (6 + 2 * cntR b)).length := by rw [List.length_drop]; unfold fromR at h3; omega
  rw [e2, List.take_length, e1]
  have e3 : [112, 97, 107, 49] = b.take 4 := h2.symm
  rw [e3]
  have t1 : b.take 4 ++ (b.drop 4).take 2 = b.take 6 := (List.take_add (l := b) (i := 4) (j := 2)).symm
  have t2 : b.take 6 ++ (b.drop 6).take (2 * cntR b) = b.take (6 + 2 * cntR b) := (List.take_add (l := b) (i := 6) (j := 2 * cntR b)).symm
  rw [t1, t2, List.take_append_drop]
theorem blob_length (l : List ByteArray) : (blobP l).length = 6 + 2 * l.length + total l := by
  unfold blobP; rw [List.length_append, headP_length, joinP_length]
theorem offP_R {b : List UInt8} {k : Nat} (hk : k ≤ cntR b) (h : fromR b k ≤ b.length) : offP (chunksR b (cntR b)) k = (fromR b k : Int) := by
  unfold offP
  rw [headP_length, chunksR_length, chunksR_take b hk, chunksR_total h]; rfl
end Go.Proofs.Yteandjophamipaa
/- Packs: what was made is read, and what may be one, as plain laws. No program in sight. -/
namespace Go.Proofs.Yteandjophamipaa
open Go.RowKit
theorem num_cat (p : List UInt8) (m : Nat) (r : List UInt8) (h : m < 65536) : num (p ++ (num2 m ++ r)) p.length = m := by
  have e1 : (p ++ (num2 m ++ r)).getD p.length 0 = UInt8.ofNat (m / 256) := by
    rw [List.getD_eq_getElem?_getD, List.getElem?_append_right (Nat.le_refl _), Nat.sub_self]; rfl
  have e2 : (p ++ (num2 m ++ r)).getD (p.length + 1) 0 = UInt8.ofNat m := by
    rw [List.getD_eq_getElem?_getD, List.getElem?_append_right (by omega), Nat.add_sub_cancel_left]; rfl
  unfold num byteAt
  rw [e1, e2, UInt8.toNat_ofNat', UInt8.toNat_ofNat']
  omega
theorem split_at {l : List ByteArray} {i : Nat} (h : i < l.length) : l = l.take i ++ atP l i :: l.drop (i + 1) := by
  rw [atP_get h, ← List.drop_eq_getElem_cons h, List.take_append_drop]
theorem nums_split {l : List ByteArray} {i : Nat} (h : i < l.length) : nums l = nums (l.take i) ++ (num2 (atP l i).size ++ nums (l.drop (i + 1))) := by
  conv => lhs; rw [split_at h]
  unfold nums; rw [List.flatMap_append, List.flatMap_cons]
theorem joinP_split {l : List ByteArray} {i : Nat} (h : i < l.length) : joinP l = joinP (l.take i) ++ ((atP l i).data.toList ++ joinP (l.drop (i + 1))) := by
  conv => lhs; rw [split_at h]
  unfold joinP; rw [List.flatMap_append, List.flatMap_cons]
theorem total_split {l : List ByteArray} {i : Nat} (h : i < l.length) : total l = total (l.take i) + ((atP l i).size + total (l.drop (i + 1))) := by
  conv => lhs; rw [split_at h]
  unfold total; rw [List.map_append, List.map_cons, List.sum_append, List.sum_cons]
theorem cnt_blob (l : List ByteArray) (h : l.length < 65536) : cntR (blobP l) = l.length := by
  have e : blobP l = [112, 97, 107, 49] ++ (num2 l.length ++ (nums l ++ joinP l)) := by unfold blobP headP; simp only [List.append_assoc]
  unfold cntR; rw [e]; exact num_cat [112, 97, 107, 49] _ _ h
theorem size_blob {l : List ByteArray} {i : Nat} (h : i < l.length) (hs : (atP l i).size < 65536) : sizeR (blobP l) i = (atP l i).size := by
  have e : blobP l = ([112, 97, 107, 49] ++ num2 l.length ++ nums (l.take i)) ++ (num2 (atP l i).size ++ (nums (l.drop (i + 1)) ++ joinP l)) := by
    unfold blobP headP; rw [nums_split h]; simp only [List.append_assoc]
  have hl : ([112, 97, 107, 49] ++ num2 l.length ++ nums (l.take i)).length = 6 + 2 * i := by
    rw [List.length_append, nums_length, List.length_take, Nat.min_eq_left (by omega)]; rfl
  unfold sizeR; rw [e, ← hl]; exact num_cat _ _ _ hs
theorem sum_blob {l : List ByteArray} (hs : ∀ i, i < l.length → (atP l i).size < 65536) : ∀ {k : Nat}, k ≤ l.length → sumR (blobP l) k = total (l.take k)
  | 0, _ => rfl
  | k + 1, h => by
    show sumR (blobP l) k + sizeR (blobP l) k = _
    rw [sum_blob hs (by omega), size_blob (by omega) (hs k (by omega)), total_take (by omega)]
theorem from_blob {l : List ByteArray} (hl : l.length < 65536) (hs : ∀ i, i < l.length → (atP l i).size < 65536) {k : Nat} (h : k ≤ l.length) : fromR (blobP l) k = (headP l).length + total (l.take k) := by
  unfold fromR; rw [cnt_blob l hl, sum_blob hs h, headP_length]
theorem chunk_blob {l : List ByteArray} (hl : l.length < 65536) (hs : ∀ i, i < l.length → (atP l i).size < 65536) {i : Nat} (h : i < l.length) : chunkR (blobP l) i = atP l i := by
  unfold chunkR
  rw [from_blob hl hs (by omega), size_blob h (hs i h)]
  have e : blobP l = (headP l ++ joinP (l.take i)) ++ ((atP l i).data.toList ++ joinP (l.drop (i + 1))) := by
    unfold blobP; rw [List.append_assoc]; congr 1; exact joinP_split h
  have hl2 : (headP l ++ joinP (l.take i)).length = (headP l).length + total (l.take i) := by rw [List.length_append, joinP_length]
  rw [e, List.drop_left' hl2, List.take_left' (data_size _), strB_data]
theorem chunks_blob {l : List ByteArray} (hl : l.length < 65536) (hs : ∀ i, i < l.length → (atP l i).size < 65536) : chunksR (blobP l) (cntR (blobP l)) = l := by
  rw [cnt_blob l hl]
  refine List.ext_getElem (chunksR_length _ _) fun i h1 h2 => ?_
  simp only [chunksR, List.getElem_map, List.getElem_range]
  rw [chunk_blob hl hs h2, atP_get h2]
theorem ok_blob {l : List ByteArray} (hl : l.length < 65536) (hs : ∀ i, i < l.length → (atP l i).size < 65536) : okR (blobP l) = true := by
  refine okR_iff.2 ⟨by rw [blob_length]; omega, ?_, ?_⟩
  · unfold blobP headP
    rw [List.append_assoc, List.append_assoc]; rfl
  · rw [cnt_blob l hl, from_blob hl hs (Nat.le_refl _), List.take_length, blob_length, headP_length]
theorem mayP_iff {l : List ByteArray} : mayP l = true ↔ 1 ≤ l.length ∧ (∀ c ∈ l, 1 ≤ c.size ∧ c.size ≤ 16384) ∧ l.Nodup ∧ (l.length = 1 ∨ total l ≤ 4096) := by
  have key : ∀ n, n ≤ l.length → (chunksOk l n = true ↔ (∀ c ∈ l.take n, 1 ≤ c.size ∧ c.size ≤ 16384) ∧ (l.take n).Nodup) := by
    intro n
    induction n with
    | zero => intro _; simp [chunksOk]
    | succ n ih =>
      intro h
      rw [chunksOk_succ, Bool.and_eq_true, ih (by omega), chunkOk_iff, take_snoc (by omega)]
      constructor
      · rintro ⟨⟨h1, h2⟩, h3, h4, h5⟩
        refine ⟨fun c hc => ?_, ?_⟩
        · rcases List.mem_append.1 hc with hc | hc
          · exact h1 c hc
          · rw [List.mem_singleton.1 hc]; exact ⟨h3, h4⟩
        · rw [List.nodup_append]
          exact ⟨h2, by simp, fun a ha b hb e => h5 (by rw [← List.mem_singleton.1 hb, ← e]; exact ha)⟩
      · rintro ⟨h1, h2⟩
        rw [List.nodup_append] at h2
        refine ⟨⟨fun c hc => h1 c (List.mem_append_left _ hc), h2.1⟩, ?_, ?_, fun h => h2.2.2 _ h _ (List.mem_singleton.2 rfl) rfl⟩
        · exact (h1 _ (List.mem_append_right _ (List.mem_singleton.2 rfl))).1
        · exact (h1 _ (List.mem_append_right _ (List.mem_singleton.2 rfl))).2
  have k := key l.length (Nat.le_refl _)
  rw [List.take_length] at k
  unfold mayP
  simp only [Bool.and_eq_true, Bool.or_eq_true, decide_eq_true_eq]
  rw [k]
  constructor
  · rintro ⟨⟨h1, h2, h3⟩, h4⟩; exact ⟨h1, h2, h3, h4⟩
  · rintro ⟨h1, h2, h3, h4⟩; exact ⟨⟨h1, h2, h3⟩, h4⟩
theorem mayP_len {l : List ByteArray} (h : mayP l = true) : l.length ≤ 4096 := by
  rcases Nat.lt_or_ge 4096 l.length with h' | h'
  · rw [mayP_many h'] at h; cases h
  · exact h'
theorem mayP_size {l : List ByteArray} (h : mayP l = true) {i : Nat} (hi : i < l.length) : 1 ≤ (atP l i).size ∧ (atP l i).size ≤ 16384 := by
  rw [atP_get hi]; exact (mayP_iff.1 h).2.1 _ (List.getElem_mem hi)
/-- What was made is read. -/
theorem read_make {l : List ByteArray} (h : mayP l = true) : readP (blobP l) = (l, offsP l, 0) := by
  have h1 : l.length < 65536 := by have := mayP_len h; omega
  have h2 : ∀ i, i < l.length → (atP l i).size < 65536 := fun i hi => by have := mayP_size h hi; omega
  unfold readP
  rw [ok_blob h1 h2, chunks_blob h1 h2, h]; rfl
/-- Unlike rows of chunks have unlike blobs. -/
theorem blob_inj {l m : List ByteArray} (h : mayP l = true) (k : mayP m = true) (e : blobP l = blobP m) : l = m := by
  have := read_make h
  rw [e, read_make k] at this
  exact (congrArg Prod.fst this).symm
/-- What was read is made. -/
theorem make_read {b : List UInt8} {l : List ByteArray} {o : List Int} (h : readP b = (l, o, 0)) : makeP l = (strB b, o, 0) := by
  unfold readP at h
  split at h
  next hc =>
    rw [Bool.and_eq_true] at hc
    injection h with h1 h2
    injection h2 with h2 h3
    subst h1 h2
    unfold makeP
    rw [hc.2, if_pos rfl, blob_R hc.1]
  next => injection h with h1 h2; injection h2 with h2 h3; exact absurd h3 (by decide)
theorem total_reverse (l : List ByteArray) : total l.reverse = total l := by unfold total; rw [List.map_reverse, List.sum_reverse]
theorem mayP_reverse {l : List ByteArray} (h : mayP l = true) : mayP l.reverse = true := by
  obtain ⟨h1, h2, h3, h4⟩ := mayP_iff.1 h
  refine mayP_iff.2 ⟨by rw [List.length_reverse]; exact h1, fun c hc => h2 c (List.mem_reverse.1 hc), List.pairwise_reverse.2 (h3.imp fun h e => h e.symm), ?_⟩
  rw [List.length_reverse, total_reverse]; exact h4
/-- Without one of them. -/
def lessP (l : List ByteArray) (k : Nat) : List ByteArray := l.take k ++ l.drop (k + 1)
theorem lessP_length {l : List ByteArray} {k : Nat} (h : k < l.length) : (lessP l k).length = l.length - 1 := by
  unfold lessP; rw [List.length_append, List.length_take, List.length_drop]; omega
theorem mayP_less {l : List ByteArray} {k : Nat} (h : mayP l = true) (hk : k < l.length) : mayP (lessP l k) = decide (0 < (lessP l k).length) := by
  obtain ⟨h1, h2, h3, h4⟩ := mayP_iff.1 h
  rw [lessP_length hk]
  by_cases hl : l.length = 1
  · have : lessP l k = [] := List.eq_nil_of_length_eq_zero (by rw [lessP_length hk]; omega)
    rw [this, hl]; rfl
  · rw [decide_eq_true (by omega)]
    have hs : (lessP l k).Sublist l := by
      have h5 : (l.drop (k + 1)).Sublist (atP l k :: l.drop (k + 1)) := List.sublist_cons_self _ _
      have := (List.Sublist.refl (l.take k)).append h5
      rwa [← split_at hk] at this
    refine mayP_iff.2 ⟨by rw [lessP_length hk]; omega, fun c hc => h2 c (hs.subset hc), hs.nodup h3, .inr ?_⟩
    have ht := total_split hk
    have h5 : total (lessP l k) = total (l.take k) + total (l.drop (k + 1)) := by unfold lessP total; rw [List.map_append, List.sum_append]
    rcases h4 with h4 | h4 <;> omega
/-- With one more behind them. -/
theorem mayP_more {l : List ByteArray} (h : mayP l = true) (c : ByteArray) : mayP (l ++ [c]) = (((decide (1 ≤ c.size) && decide (c.size ≤ 16384)) && !hasT l c) && decide (c.size + total l ≤ 4096)) := by
  obtain ⟨h1, h2, h3, h4⟩ := mayP_iff.1 h
  rw [Bool.eq_iff_iff, mayP_iff]
  simp only [Bool.and_eq_true, Bool.not_eq_true', decide_eq_true_eq, ← Bool.not_eq_true, hasT_iff, List.length_append, List.length_singleton, total_snoc]
  constructor
  · rintro ⟨_, k2, k3, k4⟩
    have := k2 c (List.mem_append_right _ (List.mem_singleton.2 rfl))
    rw [List.nodup_append] at k3
    exact ⟨⟨⟨this.1, this.2⟩, fun hc => k3.2.2 _ hc _ (List.mem_singleton.2 rfl) rfl⟩, by omega⟩
  · rintro ⟨⟨⟨k1, k2⟩, k3⟩, k4⟩
    refine ⟨by omega, fun d hd => ?_, ?_, by omega⟩
    · rcases List.mem_append.1 hd with hd | hd
      · exact h2 d hd
      · rw [List.mem_singleton.1 hd]; exact ⟨k1, k2⟩
    · rw [List.nodup_append]
      exact ⟨h3, by simp, fun a ha b hb e => k3 (by rw [← List.mem_singleton.1 hb, ← e]; exact ha)⟩
end Go.Proofs.Yteandjophamipaa
/- What package packer tells, as plain functions on lists of texts: groups of chunks. No program in sight. -/
namespace Go.Proofs.Yteandjophamipaa
open Go.RowKit
/-- Is one of the chunks none? -/
def badG (l : List ByteArray) : Bool := l.any fun c => decide (c.size = 0) || decide (16384 < c.size)
theorem badG_no {l : List ByteArray} (h : badG l = false) : ∀ c ∈ l, 1 ≤ c.size ∧ c.size ≤ 16384 := fun c hc => by
  unfold badG at h
  rw [List.any_eq_false] at h
  have := h c hc
  simp only [Bool.or_eq_true, decide_eq_true_eq, not_or] at this
  omega
theorem badG_at {l : List ByteArray} (h : badG l = false) {k : Nat} (hk : k < l.length) : 1 ≤ (atP l k).size ∧ (atP l k).size ≤ 16384 := by
  rw [atP_get hk]; exact badG_no h _ (List.getElem_mem hk)
/-- The groups that are shut, and the open one. -/
abbrev GSt := List (List ByteArray) × List ByteArray
def shutG (s : GSt) : List (List ByteArray) := if s.2.isEmpty then s.1 else s.1 ++ [s.2]
def stepG (s : GSt) (c : ByteArray) : GSt := if 4096 < total s.2 + c.size then (shutG s, [c]) else (s.1, s.2 ++ [c])
def gst (l : List ByteArray) : Nat → GSt
  | 0 => ([], [])
  | k + 1 => if hasT (l.take k) (atP l k) then gst l k else stepG (gst l k) (atP l k)
/-- What chunks are gathered into. -/
def gath (l : List ByteArray) : List (List ByteArray) := shutG (gst l l.length)
/-- The chunks, each once, in the row in which they came first. -/
def firsts (l : List ByteArray) : Nat → List ByteArray
  | 0 => []
  | k + 1 => if hasT (l.take k) (atP l k) then firsts l k else firsts l k ++ [atP l k]
theorem gst_succ (l : List ByteArray) (k : Nat) : gst l (k + 1) = if hasT (l.take k) (atP l k) then gst l k else stepG (gst l k) (atP l k) := rfl
theorem firsts_succ (l : List ByteArray) (k : Nat) : firsts l (k + 1) = if hasT (l.take k) (atP l k) then firsts l k else firsts l k ++ [atP l k] := rfl
theorem shutG_flat (s : GSt) : (shutG s).flatten = s.1.flatten ++ s.2 := by
  unfold shutG
  split
  · rename_i h; rw [List.isEmpty_iff.1 h]; simp
  · simp
theorem stepG_flat (s : GSt) (c : ByteArray) : (stepG s c).1.flatten ++ (stepG s c).2 = s.1.flatten ++ s.2 ++ [c] := by
  unfold stepG
  split
  · simp only [shutG_flat]
  · simp
theorem gst_flat (l : List ByteArray) : ∀ k, (gst l k).1.flatten ++ (gst l k).2 = firsts l k
  | 0 => rfl
  | k + 1 => by
    rw [gst_succ, firsts_succ]
    split
    · exact gst_flat l k
    · rw [stepG_flat, gst_flat l k]
theorem gath_flat (l : List ByteArray) : (gath l).flatten = firsts l l.length := by rw [gath, shutG_flat, gst_flat]
theorem firsts_mem {l : List ByteArray} : ∀ {k}, k ≤ l.length → ∀ c, c ∈ firsts l k ↔ c ∈ l.take k
  | 0, _, c => by simp [firsts]
  | k + 1, h, c => by
    have ih := firsts_mem (l := l) (k := k) (by omega) c
    rw [take_snoc (by omega), List.mem_append, List.mem_singleton, ← ih]
    rw [firsts_succ]
    split
    · rename_i hh
      rw [hasT_iff] at hh
      constructor
      · exact .inl
      · rintro (h1 | rfl)
        · exact h1
        · exact (firsts_mem (by omega) _).2 hh
    · rw [List.mem_append, List.mem_singleton]
theorem firsts_nodup {l : List ByteArray} : ∀ {k}, k ≤ l.length → (firsts l k).Nodup
  | 0, _ => by simp [firsts]
  | k + 1, h => by
    have ih := firsts_nodup (l := l) (k := k) (by omega)
    rw [firsts_succ]
    split
    · exact ih
    · rename_i hh
      rw [List.nodup_append]
      refine ⟨ih, by simp, fun a ha b hb e => hh ?_⟩
      rw [hasT_iff, ← List.mem_singleton.1 hb, ← e]
      exact (firsts_mem (by omega) a).1 ha
theorem firsts_length {l : List ByteArray} : ∀ {k}, (firsts l k).length ≤ k
  | 0 => by simp [firsts]
  | k + 1 => by
    have ih := firsts_length (l := l) (k := k)
    rw [firsts_succ]
    split
    · omega
    · rw [List.length_append]; simp; omega
theorem atP_take {l : List ByteArray} {m k : Nat} (h : k < m) : atP (l.take m) k = atP l k := by
  unfold atP
  rw [List.getD_eq_getElem?_getD, List.getD_eq_getElem?_getD, List.getElem?_take, if_pos h]
theorem gst_take {l : List ByteArray} {m : Nat} : ∀ {k}, k ≤ m → gst (l.take m) k = gst l k
  | 0, _ => rfl
  | k + 1, h => by
    rw [gst_succ, gst_succ, gst_take (by omega), atP_take (by omega), List.take_take, Nat.min_eq_left (by omega)]
theorem firsts_take {l : List ByteArray} {m : Nat} : ∀ {k}, k ≤ m → firsts (l.take m) k = firsts l k
  | 0, _ => rfl
  | k + 1, h => by
    rw [firsts_succ, firsts_succ, firsts_take (by omega), atP_take (by omega), List.take_take, Nat.min_eq_left (by omega)]
theorem gath_take (l : List ByteArray) {m : Nat} (h : m ≤ l.length) : gath (l.take m) = shutG (gst l m) := by
  unfold gath
  rw [List.length_take, Nat.min_eq_left h, gst_take (Nat.le_refl _)]
/-- A group that may stand: what each shut group is, and the open one unless it is empty. -/
def GoodG (g : List ByteArray) : Prop := mayP g = true
theorem gst_sub {l : List ByteArray} {k : Nat} (h : k ≤ l.length) : (∀ g ∈ (gst l k).1, ∀ c ∈ g, c ∈ l) ∧ ∀ c ∈ (gst l k).2, c ∈ l := by
  have hf := gst_flat l k
  have hm : ∀ c, c ∈ (gst l k).1.flatten ++ (gst l k).2 → c ∈ l := fun c hc => by
    rw [hf] at hc
    exact List.mem_of_mem_take ((firsts_mem h c).1 hc)
  exact ⟨fun g hg c hc => hm c (List.mem_append_left _ (List.mem_flatten.2 ⟨g, hg, hc⟩)), fun c hc => hm c (List.mem_append_right _ hc)⟩
theorem gst_nodup {l : List ByteArray} {k : Nat} (h : k ≤ l.length) : (∀ g ∈ (gst l k).1, g.Nodup) ∧ (gst l k).2.Nodup := by
  have hn := firsts_nodup h
  rw [← gst_flat, List.nodup_append] at hn
  refine ⟨fun g hg => ?_, hn.2.1⟩
  exact hn.1.sublist (List.sublist_flatten_of_mem hg)
theorem total_one (c : ByteArray) : total [c] = c.size := by simp [total]
theorem gst_fits (l : List ByteArray) : ∀ k, (∀ g ∈ (gst l k).1, g ≠ [] ∧ (g.length = 1 ∨ total g ≤ 4096)) ∧ ((gst l k).2.length = 1 ∨ total (gst l k).2 ≤ 4096)
  | 0 => by simp [gst, total]
  | k + 1 => by
    obtain ⟨h1, h2⟩ := gst_fits l k
    rw [gst_succ]
    split
    · exact ⟨h1, h2⟩
    · unfold stepG
      split
      · refine ⟨fun g hg => ?_, .inl rfl⟩
        simp only [shutG] at hg
        split at hg
        · exact h1 g hg
        · rename_i he
          rcases List.mem_append.1 hg with hg | hg
          · exact h1 g hg
          · rw [List.mem_singleton.1 hg]
            exact ⟨fun e => he (by rw [e]; rfl), h2⟩
      · rename_i hle
        refine ⟨h1, .inr ?_⟩
        simp only [total_snoc]; omega
theorem gst_open {l : List ByteArray} (hb : badG l = false) {k : Nat} (h : k ≤ l.length) (hne : (gst l k).2 ≠ []) : mayP (gst l k).2 = true := by
  rw [mayP_iff]
  refine ⟨?_, fun c hc => badG_no hb c ((gst_sub h).2 c hc), (gst_nodup h).2, (gst_fits l k).2⟩
  rcases Nat.eq_zero_or_pos (gst l k).2.length with e | e
  · exact absurd (List.length_eq_zero_iff.1 e) hne
  · exact e
theorem gst_shut {l : List ByteArray} (hb : badG l = false) {k : Nat} (h : k ≤ l.length) : ∀ g ∈ (gst l k).1, mayP g = true := fun g hg => by
  rw [mayP_iff]
  obtain ⟨h1, h2⟩ := (gst_fits l k).1 g hg
  refine ⟨?_, fun c hc => badG_no hb c ((gst_sub h).1 g hg c hc), (gst_nodup h).1 g hg, h2⟩
  rcases Nat.eq_zero_or_pos g.length with e | e
  · exact absurd (List.length_eq_zero_iff.1 e) h1
  · exact e
theorem shut_mem {s : GSt} {g : List ByteArray} (h : g ∈ shutG s) : g ∈ s.1 ∨ (g = s.2 ∧ s.2 ≠ []) := by
  unfold shutG at h
  split at h
  · exact .inl h
  · rename_i he
    rcases List.mem_append.1 h with h | h
    · exact .inl h
    · exact .inr ⟨List.mem_singleton.1 h, fun e => he (by rw [e]; rfl)⟩
theorem shut_good {l : List ByteArray} (hb : badG l = false) {k : Nat} (h : k ≤ l.length) : ∀ g ∈ shutG (gst l k), mayP g = true := fun g hg => by
  rcases shut_mem hg with h1 | ⟨rfl, h1⟩
  · exact gst_shut hb h g h1
  · exact gst_open hb h h1
theorem gath_good {l : List ByteArray} (hb : badG l = false) : ∀ g ∈ gath l, mayP g = true := shut_good hb (Nat.le_refl _)
/-- The groups are no more than the chunks. -/
theorem groups_le : ∀ (gs : List (List ByteArray)), (∀ g ∈ gs, g ≠ []) → gs.length ≤ gs.flatten.length
  | [], _ => by simp
  | g :: gs, h => by
    have ih := groups_le gs fun x hx => h x (List.mem_cons_of_mem _ hx)
    have h1 : g ≠ [] := h g (List.mem_cons_self ..)
    have h2 : 1 ≤ g.length := by cases g with | nil => exact absurd rfl h1 | cons => simp
    rw [List.flatten_cons, List.length_append, List.length_cons]; omega
theorem mayP_ne {g : List ByteArray} (h : mayP g = true) : g ≠ [] := fun e => by subst e; exact absurd h (by decide)
theorem shut_le {l : List ByteArray} (hb : badG l = false) {k : Nat} (h : k ≤ l.length) : (shutG (gst l k)).length ≤ k := by
  have h1 := groups_le (shutG (gst l k)) fun g hg => mayP_ne (shut_good hb h g hg)
  rw [shutG_flat, gst_flat] at h1
  have := firsts_length (l := l) (k := k)
  omega
theorem gst_le {l : List ByteArray} (hb : badG l = false) {k : Nat} (h : k ≤ l.length) : (gst l k).1.length ≤ k ∧ (gst l k).2.length ≤ k := by
  have h1 := groups_le (gst l k).1 fun g hg => mayP_ne (gst_shut hb h g hg)
  have h2 := gst_flat l k
  have h3 := congrArg List.length h2
  rw [List.length_append] at h3
  have := firsts_length (l := l) (k := k)
  omega
/-- What is shut stays ahead. -/
theorem step_pre (s : GSt) (c : ByteArray) : s.1 <+: (stepG s c).1 := by
  unfold stepG
  split
  · simp only [shutG]
    split
    · exact List.prefix_rfl
    · exact List.prefix_append _ _
  · exact List.prefix_rfl
theorem gst_pre (l : List ByteArray) {k m : Nat} (h : k ≤ m) : (gst l k).1 <+: (gst l m).1 := by
  induction m with
  | zero => rw [show k = 0 from by omega]; exact List.prefix_rfl
  | succ m ih =>
    rcases Nat.eq_or_lt_of_le h with e | e
    · rw [e]; exact List.prefix_rfl
    · refine (ih (by omega)).trans ?_
      rw [gst_succ]
      split
      · exact List.prefix_rfl
      · exact step_pre _ _
theorem pre_shut (s : GSt) : s.1 <+: shutG s := by
  unfold shutG
  split
  · exact List.prefix_rfl
  · exact List.prefix_append _ _
theorem step_len (s : GSt) (c : ByteArray) : (shutG s).length ≤ (shutG (stepG s c)).length := by
  unfold stepG
  split
  · simp [shutG]
  · simp only [shutG]
    split <;> split <;> simp_all
theorem shut_len (l : List ByteArray) {k m : Nat} (h : k ≤ m) : (shutG (gst l k)).length ≤ (shutG (gst l m)).length := by
  induction m with
  | zero => rw [show k = 0 from by omega]; exact Nat.le_refl _
  | succ m ih =>
    rcases Nat.eq_or_lt_of_le h with e | e
    · rw [e]; exact Nat.le_refl _
    · refine Nat.le_trans (ih (by omega)) ?_
      rw [gst_succ]
      split
      · exact Nat.le_refl _
      · exact step_len _ _
theorem shutG_length (s : GSt) : (shutG s).length ≤ s.1.length + 1 := by unfold shutG; split <;> simp
/-- Of some of the first chunks all packs but the last one are the first packs of all. -/
theorem gath_first (l : List ByteArray) {m : Nat} (h : m ≤ l.length) : (gath (l.take m)).length ≤ (gath l).length ∧ ∀ i, i + 1 < (gath (l.take m)).length → (gath (l.take m))[i]? = (gath l)[i]? := by
  rw [gath_take l h]
  refine ⟨shut_len l h, fun i hi => ?_⟩
  have h1 := shutG_length (gst l m)
  have hi' : i < (gst l m).1.length := by omega
  have h2 : (gst l m).1 <+: gath l := (gst_pre l h).trans (pre_shut _)
  obtain ⟨t, ht⟩ := pre_shut (gst l m)
  obtain ⟨t2, ht2⟩ := h2
  rw [← ht, ← ht2, List.getElem?_append_left hi', List.getElem?_append_left hi']
/-- Group i. -/
def grp (gs : List (List ByteArray)) (i : Nat) : List ByteArray := gs.getD i []
theorem grp_get {gs : List (List ByteArray)} {i : Nat} (h : i < gs.length) : grp gs i = gs[i] := by
  unfold grp; rw [List.getD_eq_getElem?_getD, List.getElem?_eq_getElem h]; rfl
theorem grp_mem {gs : List (List ByteArray)} {i : Nat} (h : i < gs.length) : grp gs i ∈ gs := by rw [grp_get h]; exact List.getElem_mem h
theorem grp_left {gs : List (List ByteArray)} {g : List ByteArray} {i : Nat} (h : i < gs.length) : grp (gs ++ [g]) i = grp gs i := by
  rw [grp_get h, grp_get (by rw [List.length_append]; omega), List.getElem_append_left h]
theorem grp_last {gs : List (List ByteArray)} {g : List ByteArray} : grp (gs ++ [g]) gs.length = g := by
  unfold grp; rw [List.getD_eq_getElem?_getD]; simp
/-- No two groups beside one another would have gone into one. -/
def Apart (gs : List (List ByteArray)) : Prop := ∀ i, i + 1 < gs.length → 4096 < total (grp gs i) + (atP (grp gs (i + 1)) 0).size
theorem Apart.snoc {gs : List (List ByteArray)} {g : List ByteArray} (h : Apart gs) (hl : 0 < gs.length → 4096 < total (grp gs (gs.length - 1)) + (atP g 0).size) : Apart (gs ++ [g]) := fun i hi => by
  rw [List.length_append, List.length_singleton] at hi
  by_cases e : i + 1 < gs.length
  · rw [grp_left e, grp_left (by omega)]; exact h i e
  · have e1 : i + 1 = gs.length := by omega
    rw [e1, grp_last, grp_left (by omega)]
    have := hl (by omega)
    rwa [show gs.length - 1 = i from by omega] at this
theorem Apart.of_snoc {gs : List (List ByteArray)} {g : List ByteArray} (h : Apart (gs ++ [g])) : Apart gs ∧ (0 < gs.length → 4096 < total (grp gs (gs.length - 1)) + (atP g 0).size) := by
  constructor
  · intro i hi
    have := h i (by rw [List.length_append]; omega)
    rwa [grp_left hi, grp_left (by omega)] at this
  · intro hl
    have := h (gs.length - 1) (by rw [List.length_append, List.length_singleton]; omega)
    rwa [show gs.length - 1 + 1 = gs.length from by omega, grp_last, grp_left (by omega)] at this
theorem shutG_ne {s : GSt} (h : s.2 ≠ []) : shutG s = s.1 ++ [s.2] := by
  unfold shutG
  split
  · rename_i he; exact absurd (List.isEmpty_iff.1 he) h
  · rfl
theorem shutG_e {s : GSt} (h : s.2 = []) : shutG s = s.1 := by unfold shutG; rw [h]; rfl
theorem atP_append {g : List ByteArray} (h : g ≠ []) (c : ByteArray) : atP (g ++ [c]) 0 = atP g 0 := by
  cases g with
  | nil => exact absurd rfl h
  | cons x g => rfl
theorem step_apart {s : GSt} (h : Apart (shutG s)) (he : s.2 = [] → s.1 = []) (c : ByteArray) : Apart (shutG (stepG s c)) ∧ (stepG s c).2 ≠ [] := by
  unfold stepG
  split
  · rename_i hgt
    refine ⟨?_, by simp⟩
    rw [shutG_ne (by simp)]
    refine h.snoc fun hl => ?_
    by_cases e : s.2 = []
    · rw [shutG_e e, he e] at hl; simp at hl
    · rw [shutG_ne e, List.length_append, List.length_singleton, Nat.add_sub_cancel, grp_last]
      exact hgt
  · refine ⟨?_, by simp⟩
    rw [shutG_ne (by simp)]
    by_cases e : s.2 = []
    · rw [he e, e]
      intro i hi
      simp at hi
    · rw [shutG_ne e] at h
      obtain ⟨h1, h2⟩ := h.of_snoc
      exact h1.snoc fun hl => by dsimp only; rw [atP_append e]; exact h2 hl
theorem gst_apart (l : List ByteArray) : ∀ k, Apart (shutG (gst l k)) ∧ ((gst l k).2 = [] → (gst l k).1 = [])
  | 0 => ⟨fun i hi => by simp [gst, shutG] at hi, fun _ => rfl⟩
  | k + 1 => by
    obtain ⟨h1, h2⟩ := gst_apart l k
    rw [gst_succ]
    split
    · exact ⟨h1, h2⟩
    · obtain ⟨h3, h4⟩ := step_apart h1 h2 (atP l k)
      exact ⟨h3, fun e => absurd e h4⟩
theorem gath_apart (l : List ByteArray) : Apart (gath l) := (gst_apart l _).1
theorem total_cut (l : List ByteArray) (k : Nat) : total l = total (l.take k) + total (l.drop k) := by
  unfold total
  rw [List.map_take, List.map_drop, ← List.sum_append, List.take_append_drop]
/-- Gathered again, a group's chunks are that group. -/
theorem gst_self {g : List ByteArray} (h : mayP g = true) : ∀ k, k ≤ g.length → gst g k = ([], g.take k)
  | 0, _ => by simp [gst]
  | k + 1, hk => by
    have ih := gst_self h k (by omega)
    obtain ⟨h1, h2, h3, h4⟩ := mayP_iff.1 h
    rw [gst_succ]
    have hn : ¬ hasT (g.take k) (atP g k) = true := by
      rw [hasT_iff, atP_get (by omega)]
      intro hm
      have hs := h3
      rw [← List.take_append_drop k g, List.nodup_append] at hs
      refine hs.2.2 _ hm _ ?_ rfl
      rw [List.mem_iff_getElem]
      exact ⟨0, by rw [List.length_drop]; omega, by rw [List.getElem_drop]; rfl⟩
    rw [if_neg hn, ih]
    unfold stepG
    dsimp only
    rw [take_snoc (by omega)]
    split
    · rename_i hgt
      have hk0 : k = 0 := by
        rcases h4 with h4 | h4
        · omega
        · have := total_take (l := g) (k := k) (by omega)
          have := total_le g (k + 1)
          omega
      subst hk0
      simp [shutG]
    · rfl
theorem gath_self {g : List ByteArray} (h : mayP g = true) : gath g = [g] := by
  unfold gath
  rw [gst_self h _ (Nat.le_refl _), List.take_length, shutG_ne (mayP_ne h)]
  rfl
theorem badG_self {g : List ByteArray} (h : mayP g = true) : badG g = false := by
  unfold badG
  rw [List.any_eq_false]
  intro c hc
  have := (mayP_iff.1 h).2.1 c hc
  simp only [Bool.or_eq_true, decide_eq_true_eq, not_or]
  omega
theorem badG_take {l : List ByteArray} (h : badG l = false) (k : Nat) : badG (l.take k) = false := by
  unfold badG at *
  rw [List.any_eq_false] at *
  exact fun c hc => h c (List.mem_of_mem_take hc)
theorem firsts_total (l : List ByteArray) : ∀ {k}, k ≤ l.length → total (firsts l k) ≤ total (l.take k)
  | 0, _ => by simp [firsts, total]
  | k + 1, h => by
    have ih := firsts_total l (k := k) (by omega)
    rw [firsts_succ]
    rw [total_take (by omega)]
    split
    · omega
    · rw [total_snoc]; omega
theorem total_flat (gs : List (List ByteArray)) : total gs.flatten = (gs.map total).sum := by
  unfold total
  induction gs with
  | nil => rfl
  | cons g gs ih => rw [List.flatten_cons, List.map_append, List.sum_append, ih]; rfl
/-- How many bytes the blobs have. -/
def bytesG (gs : List (List ByteArray)) : Nat := (gs.map fun g => (blobP g).length).sum
theorem blobP_length (g : List ByteArray) : (blobP g).length = 6 + 2 * g.length + total g := by
  unfold blobP; rw [List.length_append, headP_length, joinP_length]
theorem bytesG_is (gs : List (List ByteArray)) : bytesG gs = 6 * gs.length + 2 * gs.flatten.length + total gs.flatten := by
  unfold bytesG
  induction gs with
  | nil => rfl
  | cons g gs ih =>
    rw [List.map_cons, List.sum_cons, ih, List.length_cons, List.flatten_cons, List.length_append, blobP_length]
    have : total (g ++ gs.flatten) = total g + total gs.flatten := by unfold total; rw [List.map_append, List.sum_append]
    omega
theorem gath_len (l : List ByteArray) (hb : badG l = false) : (gath l).length ≤ (gath l).flatten.length ∧ (gath l).flatten.length ≤ l.length := by
  refine ⟨groups_le _ fun g hg => mayP_ne (gath_good hb g hg), ?_⟩
  rw [gath_flat]; exact firsts_length
theorem bytesG_le (l : List ByteArray) (hb : badG l = false) : bytesG (gath l) ≤ 8 * l.length + total l := by
  have h1 := gath_len l hb
  have h2 := bytesG_is (gath l)
  have h3 : total (gath l).flatten ≤ total l := by
    rw [gath_flat]
    have := firsts_total l (k := l.length) (Nat.le_refl _)
    rwa [List.take_length] at this
  omega
theorem bytesG_snoc (gs : List (List ByteArray)) (g : List ByteArray) : bytesG (gs ++ [g]) = bytesG gs + (blobP g).length := by unfold bytesG; simp
theorem gst_total {l : List ByteArray} {k : Nat} (h : k ≤ l.length) : total (gst l k).2 ≤ total l := by
  have h1 := firsts_total l h
  have h2 := total_le l k
  have h3 := congrArg total (gst_flat l k)
  have h4 : total ((gst l k).1.flatten ++ (gst l k).2) = total (gst l k).1.flatten + total (gst l k).2 := by unfold total; rw [List.map_append, List.sum_append]
  omega
end Go.Proofs.Yteandjophamipaa
