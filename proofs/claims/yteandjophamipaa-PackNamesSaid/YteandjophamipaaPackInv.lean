/- Packs: what was made is read, and what may be one, as plain laws. No program in sight. -/
import Derived.Test.YteandjophamipaaReadSpec
namespace Go.Proofs.Yteandjophamipaa
open Go.RowKit
theorem num_cat (p : List UInt8) (m : Nat) (r : List UInt8) (h : m < 65536) : num (p ++ (num2 m ++ r)) p.length = m := by
  have e1 : (p ++ (num2 m ++ r)).getD p.length 0 = UInt8.ofNat (m / 256) := by
    rw [List.getD_eq_getElem?_getD, List.getElem?_append_right (Nat.le_refl _), Nat.sub_self]; rfl
  have e2 : (p ++ (num2 m ++ r)).getD (p.length + 1) 0 = UInt8.ofNat m := by
    rw [List.getD_eq_getElem?_getD, List.getElem?_append_right (by omega), Nat.add_sub_cancel_left]; rfl
  unfold num byteAt
  rw [e1, e2, UInt8.toNat_ofNat', UInt8.toNat_ofNat']
  omega
theorem split_at {l : List ByteArray} {i : Nat} (h : i < l.length) : l = l.take i ++ atP l i :: l.drop (i + 1) := by
  rw [atP_get h, ← List.drop_eq_getElem_cons h, List.take_append_drop]
theorem nums_split {l : List ByteArray} {i : Nat} (h : i < l.length) : nums l = nums (l.take i) ++ (num2 (atP l i).size ++ nums (l.drop (i + 1))) := by
  conv => lhs; rw [split_at h]
  unfold nums; rw [List.flatMap_append, List.flatMap_cons]
theorem joinP_split {l : List ByteArray} {i : Nat} (h : i < l.length) : joinP l = joinP (l.take i) ++ ((atP l i).data.toList ++ joinP (l.drop (i + 1))) := by
  conv => lhs; rw [split_at h]
  unfold joinP; rw [List.flatMap_append, List.flatMap_cons]
theorem total_split {l : List ByteArray} {i : Nat} (h : i < l.length) : total l = total (l.take i) + ((atP l i).size + total (l.drop (i + 1))) := by
  conv => lhs; rw [split_at h]
  unfold total; rw [List.map_append, List.map_cons, List.sum_append, List.sum_cons]
theorem cnt_blob (l : List ByteArray) (h : l.length < 65536) : cntR (blobP l) = l.length := by
  have e : blobP l = [112, 97, 107, 49] ++ (num2 l.length ++ (nums l ++ joinP l)) := by unfold blobP headP; simp only [List.append_assoc]
  unfold cntR; rw [e]; exact num_cat [112, 97, 107, 49] _ _ h
theorem size_blob {l : List ByteArray} {i : Nat} (h : i < l.length) (hs : (atP l i).size < 65536) : sizeR (blobP l) i = (atP l i).size := by
  have e : blobP l = ([112, 97, 107, 49] ++ num2 l.length ++ nums (l.take i)) ++ (num2 (atP l i).size ++ (nums (l.drop (i + 1)) ++ joinP l)) := by
    unfold blobP headP; rw [nums_split h]; simp only [List.append_assoc]
  have hl : ([112, 97, 107, 49] ++ num2 l.length ++ nums (l.take i)).length = 6 + 2 * i := by
    rw [List.length_append, nums_length, List.length_take, Nat.min_eq_left (by omega)]; rfl
  unfold sizeR; rw [e, ← hl]; exact num_cat _ _ _ hs
theorem sum_blob {l : List ByteArray} (hs : ∀ i, i < l.length → (atP l i).size < 65536) : ∀ {k : Nat}, k ≤ l.length → sumR (blobP l) k = total (l.take k)
  | 0, _ => rfl
  | k + 1, h => by
    show sumR (blobP l) k + sizeR (blobP l) k = _
    rw [sum_blob hs (by omega), size_blob (by omega) (hs k (by omega)), total_take (by omega)]
theorem from_blob {l : List ByteArray} (hl : l.length < 65536) (hs : ∀ i, i < l.length → (atP l i).size < 65536) {k : Nat} (h : k ≤ l.length) : fromR (blobP l) k = (headP l).length + total (l.take k) := by
  unfold fromR; rw [cnt_blob l hl, sum_blob hs h, headP_length]
theorem chunk_blob {l : List ByteArray} (hl : l.length < 65536) (hs : ∀ i, i < l.length → (atP l i).size < 65536) {i : Nat} (h : i < l.length) : chunkR (blobP l) i = atP l i := by
  unfold chunkR
  rw [from_blob hl hs (by omega), size_blob h (hs i h)]
  have e : blobP l = (headP l ++ joinP (l.take i)) ++ ((atP l i).data.toList ++ joinP (l.drop (i + 1))) := by
    unfold blobP; rw [List.append_assoc]; congr 1; exact joinP_split h
  have hl2 : (headP l ++ joinP (l.take i)).length = (headP l).length + total (l.take i) := by rw [List.length_append, joinP_length]
  rw [e, List.drop_left' hl2, List.take_left' (data_size _), strB_data]
theorem chunks_blob {l : List ByteArray} (hl : l.length < 65536) (hs : ∀ i, i < l.length → (atP l i).size < 65536) : chunksR (blobP l) (cntR (blobP l)) = l := by
  rw [cnt_blob l hl]
  refine List.ext_getElem (chunksR_length _ _) fun i h1 h2 => ?_
  simp only [chunksR, List.getElem_map, List.getElem_range]
  rw [chunk_blob hl hs h2, atP_get h2]
theorem ok_blob {l : List ByteArray} (hl : l.length < 65536) (hs : ∀ i, i < l.length → (atP l i).size < 65536) : okR (blobP l) = true := by
  refine okR_iff.2 ⟨by rw [blob_length]; omega, ?_, ?_⟩
  · unfold blobP headP
    rw [List.append_assoc, List.append_assoc]; rfl
  · rw [cnt_blob l hl, from_blob hl hs (Nat.le_refl _), List.take_length, blob_length, headP_length]
theorem mayP_iff {l : List ByteArray} : mayP l = true ↔ 1 ≤ l.length ∧ (∀ c ∈ l, 1 ≤ c.size ∧ c.size ≤ 16384) ∧ l.Nodup ∧ (l.length = 1 ∨ total l ≤ 4096) := by
  have key : ∀ n, n ≤ l.length → (chunksOk l n = true ↔ (∀ c ∈ l.take n, 1 ≤ c.size ∧ c.size ≤ 16384) ∧ (l.take n).Nodup) := by
    intro n
    induction n with
    | zero => intro _; simp [chunksOk]
    | succ n ih =>
      intro h
      rw [chunksOk_succ, Bool.and_eq_true, ih (by omega), chunkOk_iff, take_snoc (by omega)]
      constructor
      · rintro ⟨⟨h1, h2⟩, h3, h4, h5⟩
        refine ⟨fun c hc => ?_, ?_⟩
        · rcases List.mem_append.1 hc with hc | hc
          · exact h1 c hc
          · rw [List.mem_singleton.1 hc]; exact ⟨h3, h4⟩
        · rw [List.nodup_append]
          exact ⟨h2, by simp, fun a ha b hb e => h5 (by rw [← List.mem_singleton.1 hb, ← e]; exact ha)⟩
      · rintro ⟨h1, h2⟩
        rw [List.nodup_append] at h2
        refine ⟨⟨fun c hc => h1 c (List.mem_append_left _ hc), h2.1⟩, ?_, ?_, fun h => h2.2.2 _ h _ (List.mem_singleton.2 rfl) rfl⟩
        · exact (h1 _ (List.mem_append_right _ (List.mem_singleton.2 rfl))).1
        · exact (h1 _ (List.mem_append_right _ (List.mem_singleton.2 rfl))).2
  have k := key l.length (Nat.le_refl _)
  rw [List.take_length] at k
  unfold mayP
  simp only [Bool.and_eq_true, Bool.or_eq_true, decide_eq_true_eq]
  rw [k]
  constructor
  · rintro ⟨⟨h1, h2, h3⟩, h4⟩; exact ⟨h1, h2, h3, h4⟩
  · rintro ⟨h1, h2, h3, h4⟩; exact ⟨⟨h1, h2, h3⟩, h4⟩
theorem mayP_len {l : List ByteArray} (h : mayP l = true) : l.length ≤ 4096 := by
  rcases Nat.lt_or_ge 4096 l.length with h' | h'
  · rw [mayP_many h'] at h; cases h
  · exact h'
theorem mayP_size {l : List ByteArray} (h : mayP l = true) {i : Nat} (hi : i < l.length) : 1 ≤ (atP l i).size ∧ (atP l i).size ≤ 16384 := by
  rw [atP_get hi]; exact (mayP_iff.1 h).2.1 _ (List.getElem_mem hi)
/-- What was made is read. -/
theorem read_make {l : List ByteArray} (h : mayP l = true) : readP (blobP l) = (l, offsP l, 0) := by
  have h1 : l.length < 65536 := by have := mayP_len h; omega
  have h2 : ∀ i, i < l.length → (atP l i).size < 65536 := fun i hi => by have := mayP_size h hi; omega
  unfold readP
  rw [ok_blob h1 h2, chunks_blob h1 h2, h]; rfl
/-- Unlike rows of chunks have unlike blobs. -/
theorem blob_inj {l m : List ByteArray} (h : mayP l = true) (k : mayP m = true) (e : blobP l = blobP m) : l = m := by
  have := read_make h
  rw [e, read_make k] at this
  exact (congrArg Prod.fst this).symm
/-- What was read is made. -/
theorem make_read {b : List UInt8} {l : List ByteArray} {o : List Int} (h : readP b = (l, o, 0)) : makeP l = (strB b, o, 0) := by
  unfold readP at h
  split at h
  next hc =>
    rw [Bool.and_eq_true] at hc
    injection h with h1 h2
    injection h2 with h2 h3
    subst h1 h2
    unfold makeP
    rw [hc.2, if_pos rfl, blob_R hc.1]
  next => injection h with h1 h2; injection h2 with h2 h3; exact absurd h3 (by decide)
theorem total_reverse (l : List ByteArray) : total l.reverse = total l := by unfold total; rw [List.map_reverse, List.sum_reverse]
theorem mayP_reverse {l : List ByteArray} (h : mayP l = true) : mayP l.reverse = true := by
  obtain ⟨h1, h2, h3, h4⟩ := mayP_iff.1 h
  refine mayP_iff.2 ⟨by rw [List.length_reverse]; exact h1, fun c hc => h2 c (List.mem_reverse.1 hc), List.pairwise_reverse.2 (h3.imp fun h e => h e.symm), ?_⟩
  rw [List.length_reverse, total_reverse]; exact h4
/-- Without one of them. -/
def lessP (l : List ByteArray) (k : Nat) : List ByteArray := l.take k ++ l.drop (k + 1)
theorem lessP_length {l : List ByteArray} {k : Nat} (h : k < l.length) : (lessP l k).length = l.length - 1 := by
  unfold lessP; rw [List.length_append, List.length_take, List.length_drop]; omega
theorem mayP_less {l : List ByteArray} {k : Nat} (h : mayP l = true) (hk : k < l.length) : mayP (lessP l k) = decide (0 < (lessP l k).length) := by
  obtain ⟨h1, h2, h3, h4⟩ := mayP_iff.1 h
  rw [lessP_length hk]
  by_cases hl : l.length = 1
  · have : lessP l k = [] := List.eq_nil_of_length_eq_zero (by rw [lessP_length hk]; omega)
    rw [this, hl]; rfl
  · rw [decide_eq_true (by omega)]
    have hs : (lessP l k).Sublist l := by
      have h5 : (l.drop (k + 1)).Sublist (atP l k :: l.drop (k + 1)) := List.sublist_cons_self _ _
      have := (List.Sublist.refl (l.take k)).append h5
      rwa [← split_at hk] at this
    refine mayP_iff.2 ⟨by rw [lessP_length hk]; omega, fun c hc => h2 c (hs.subset hc), hs.nodup h3, .inr ?_⟩
    have ht := total_split hk
    have h5 : total (lessP l k) = total (l.take k) + total (l.drop (k + 1)) := by unfold lessP total; rw [List.map_append, List.sum_append]
    rcases h4 with h4 | h4 <;> omega
/-- With one more behind them. -/
theorem mayP_more {l : List ByteArray} (h : mayP l = true) (c : ByteArray) : mayP (l ++ [c]) = (((decide (1 ≤ c.size) && decide (c.size ≤ 16384)) && !hasT l c) && decide (c.size + total l ≤ 4096)) := by
  obtain ⟨h1, h2, h3, h4⟩ := mayP_iff.1 h
  rw [Bool.eq_iff_iff, mayP_iff]
  simp only [Bool.and_eq_true, Bool.not_eq_true', decide_eq_true_eq, ← Bool.not_eq_true, hasT_iff, List.length_append, List.length_singleton, total_snoc]
  constructor
  · rintro ⟨_, k2, k3, k4⟩
    have := k2 c (List.mem_append_right _ (List.mem_singleton.2 rfl))
    rw [List.nodup_append] at k3
    exact ⟨⟨⟨this.1, this.2⟩, fun hc => k3.2.2 _ hc _ (List.mem_singleton.2 rfl) rfl⟩, by omega⟩
  · rintro ⟨⟨⟨k1, k2⟩, k3⟩, k4⟩
    refine ⟨by omega, fun d hd => ?_, ?_, by omega⟩
    · rcases List.mem_append.1 hd with hd | hd
      · exact h2 d hd
      · rw [List.mem_singleton.1 hd]; exact ⟨k1, k2⟩
    · rw [List.nodup_append]
      exact ⟨h3, by simp, fun a ha b hb e => k3 (by rw [← List.mem_singleton.1 hb, ← e]; exact ha)⟩
end Go.Proofs.Yteandjophamipaa
