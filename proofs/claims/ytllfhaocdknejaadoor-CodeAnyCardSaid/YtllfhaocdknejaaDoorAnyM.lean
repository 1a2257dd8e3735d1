/- Plain laws for CodeAny: what any rows of payloads tell, and that with one of more than K changed they are no blob's. No program in sight. -/
import Derived.Test.YtllfhaocdknejaaDoorCodeFd
namespace Go.Proofs.YtllfhaocdknejaaDoor
theorem enc_top {K N i : Nat} {d : List UInt8} (hKN : K ≤ N) (hi : i < K) : (encM K N d).getD i [] = (dataC K d).getD i [] := by
  rw [encM_row (by omega), dataC_row hi]
  have hl : (cutR (sizeN K d.length) (wholeB K d) i).length = sizeN K d.length := cutR_length (K := K) (whole_length (by omega)) hi
  refine List.ext_getElem (by rw [hl]; simp) fun b h1 h2 => ?_
  rw [hl] at h2
  rw [List.getElem_map, List.getElem_range, spr_code (by omega), LA.sum_single hi (fun j hj hne => by unfold codeAt oneAt; rw [if_pos hi, if_neg (fun e => hne e.symm), LA.zero_mul])]
  unfold codeAt oneAt
  rw [if_pos hi, if_pos rfl, LA.one_mul]
  unfold LA.at_
  rw [dataC_row hi, List.getD_eq_getElem?_getD, List.getElem?_eq_getElem (by rw [hl]; exact h2)]; rfl
/-- The first K payloads, put together. -/
theorem enc_whole {K N : Nat} {d : List UInt8} (hK : 1 ≤ K) (hKN : K ≤ N) : ((encM K N d).take K).flatten = wholeB K d := by
  have e : (encM K N d).take K = dataC K d := by
    refine List.ext_getElem (by rw [List.length_take, encM_len, dataC_length]; omega) fun i h1 h2 => ?_
    rw [dataC_length] at h2
    have := enc_top (d := d) hKN h2
    rw [List.getElem_take]
    rw [List.getD_eq_getElem?_getD, List.getD_eq_getElem?_getD, List.getElem?_eq_getElem (by rw [encM_len]; omega), List.getElem?_eq_getElem (by rw [dataC_length]; exact h2)] at this
    exact this
  rw [e]
  unfold dataC
  exact cut_flat _ K _ (whole_length hK)
theorem whole_blob {K : Nat} {d : List UInt8} : ((wholeB K d).drop 8).take d.length = d := by
  unfold wholeB
  rw [List.append_assoc, List.drop_left' (head8_length _), List.take_left' rfl]
theorem whole_six {K : Nat} {d : List UInt8} (h : d.length ≤ 3000) : ((wholeB K d).getD 6 0).toNat * 256 + ((wholeB K d).getD 7 0).toNat = d.length := by
  have e6 : (wholeB K d).getD 6 0 = UInt8.ofNat (d.length / 256) := rfl
  have e7 : (wholeB K d).getD 7 0 = UInt8.ofNat d.length := rfl
  rw [e6, e7, UInt8.toNat_ofNat', UInt8.toNat_ofNat']
  omega
theorem whole_long {K : Nat} {d : List UInt8} (hK : 1 ≤ K) : 8 + d.length ≤ (wholeB K d).length := by
  rw [whole_length hK]; exact (sizeN_mul hK).1
/-- The payloads of a blob at some places. -/
def someP (M : List (List UInt8)) (xs : List Nat) : List ByteArray := xs.map fun x => strB (M.getD x [])
def numsP (xs : List Nat) : List Int := xs.map fun x : Nat => (x : Int)
theorem numsP_len (xs : List Nat) : (numsP xs).length = xs.length := List.length_map _
theorem someP_len (M : List (List UInt8)) (xs : List Nat) : (someP M xs).length = xs.length := List.length_map _
theorem numsP_at {xs : List Nat} {i : Nat} (h : i < (numsP xs).length) : (numsP xs)[i] = ((xs[i]'(by rw [numsP_len] at h; exact h) : Nat) : Int) := List.getElem_map ..
theorem someP_at {M : List (List UInt8)} {xs : List Nat} {i : Nat} (h : i < (someP M xs).length) : (someP M xs)[i] = strB (M.getD (xs[i]'(by rw [someP_len] at h; exact h)) []) := List.getElem_map ..
theorem nums_nodup {xs : List Nat} (h : xs.Nodup) : (numsP xs).Nodup := by
  unfold numsP
  exact List.Pairwise.map _ (fun a b hne e => hne (by omega)) h
theorem nums_good {N : Nat} {xs : List Nat} (h : xs.Nodup) (hb : ∀ x ∈ xs, x < N) : goodH (N : Int) (numsP xs) = true := by
  rw [goodH_iff]
  refine ⟨fun x hx => ?_, nums_nodup h⟩
  obtain ⟨y, hy, rfl⟩ := List.mem_map.1 hx
  have := hb y hy
  exact ⟨by omega, by omega⟩
section
variable {K N : Nat} {xs : List Nat} {d : List UInt8} (hc : codeB K N = true) (hx : xs.Nodup) (hb : ∀ x ∈ xs, x < N) (hk : K ≤ xs.length)
include hc hx hb hk
theorem some_hand {ps : List ByteArray} (hl : ps.length = xs.length) : handE K N (numsP xs) ps.length = 0 := by
  unfold handE
  rw [hc, numsP_len, hl, decide_eq_true rfl, Bool.and_self, if_pos rfl, nums_good hx hb, if_pos rfl, if_neg (by omega)]
theorem some_fits (hd : d.length ≤ 32768) : gotD K N (numsP xs) (someP (encM K N d) xs) = some d ∧ errD K N (numsP xs) (someP (encM K N d) xs) = 0 := by
  obtain ⟨g1, g2, g3⟩ := codeB_true.1 hc
  have hl : (numsP xs).length = (someP (encM K N d) xs).length := by rw [numsP_len, someP_len]
  have e := (dec_fits (d := d) (ps := someP (encM K N d) xs) (show 1 ≤ K by omega) (show K ≤ N by omega) (show N ≤ 12 by omega) (nums_good hx hb) hl (by rw [numsP_len]; exact hk) ⟨hd, (haveB_iff hl).2 fun i hi => by
    rw [numsP_at, someP_at, Int.toNat_natCast]⟩).1
  have h0 := some_hand hc hx hb hk (ps := someP (encM K N d) xs) (someP_len _ _)
  have e1 : gotD K N (numsP xs) (someP (encM K N d) xs) = some d := by unfold gotD; rw [if_pos h0, Int.toNat_natCast, Int.toNat_natCast]; exact e
  exact ⟨e1, errD_zero.2 (by rw [e1]; rfl)⟩
theorem some_reb (hd : d.length ≤ 32768) {i : Nat} (hi : i < N) : rebD K N (numsP xs) (someP (encM K N d) xs) i = (strB ((encM K N d).getD i []), 0) := by
  obtain ⟨e1, e2⟩ := some_fits hc hx hb hk hd
  unfold rebD
  rw [hc, decide_eq_true ⟨by omega, by omega⟩, Bool.and_self, if_pos rfl, if_pos e2, e1, Int.toNat_natCast, Int.toNat_natCast, Int.toNat_natCast]; rfl
theorem some_few {ps : List ByteArray} (hl : ps.length = xs.length) : errD K N ((numsP xs).take (K - 1)) (ps.take (K - 1)) = 54 := by
  obtain ⟨g1, g2, g3⟩ := codeB_true.1 hc
  have e : handE K N ((numsP xs).take (K - 1)) (ps.take (K - 1)).length = 54 := by
    unfold handE
    have l1 : ((numsP xs).take (K - 1)).length = K - 1 := by rw [List.length_take, numsP_len]; omega
    have l2 : (ps.take (K - 1)).length = K - 1 := by rw [List.length_take]; omega
    rw [hc, l1, l2, decide_eq_true rfl, Bool.and_self, if_pos rfl, goodH_take (nums_good hx hb), if_pos rfl, if_pos (by omega)]
  unfold errD
  rw [e, if_neg (by decide)]
/-- One of more than K is another one: they are no blob's. -/
theorem some_bad (hk1 : K + 1 ≤ xs.length) (hd : d.length ≤ 32768) {k : Nat} (hkx : k < xs.length) {s : ByteArray} (hs : s ≠ strB ((encM K N d).getD xs[k] [])) : errD K N (numsP xs) ((someP (encM K N d) xs).set k s) = 4 := by
  obtain ⟨g1, g2, g3⟩ := codeB_true.1 hc
  have hl : (numsP xs).length = ((someP (encM K N d) xs).set k s).length := by rw [numsP_len, List.length_set, someP_len]
  have h0 := some_hand hc hx hb hk (ps := (someP (encM K N d) xs).set k s) (by rw [List.length_set, someP_len])
  unfold errD
  rw [if_pos h0, Int.toNat_natCast, Int.toNat_natCast]
  have e : decD K N (numsP xs) ((someP (encM K N d) xs).set k s) = none := by
    cases hd2 : decD K N (numsP xs) ((someP (encM K N d) xs).set k s) with
    | none => rfl
    | some d' =>
      exfalso
      obtain ⟨f1, f2⟩ := fits_dec (show 1 ≤ K by omega) hl (by rw [numsP_len]; exact hk) hd2
      have f3 := (haveB_iff hl).1 f2
      have hat : ∀ i (h : i < xs.length), i ≠ k → (encM K N d').getD xs[i] [] = (encM K N d).getD xs[i] [] := fun i h hne => by
        have := f3 i (by rw [numsP_len]; exact h)
        rw [List.getElem_set_ne (fun e => hne e.symm)] at this
        rw [numsP_at, someP_at, Int.toNat_natCast] at this
        exact strB_inj this
      have hatk : strB ((encM K N d').getD xs[k] []) = s := by
        have := f3 k (by rw [numsP_len]; exact hkx)
        rw [List.getElem_set_self] at this
        rw [numsP_at, Int.toNat_natCast] at this
        exact this
      have hne : d' ≠ d := fun e => hs (by rw [← hatk, e])
      have h1 := apart_lt (show 1 ≤ K by omega) (show K ≤ N by omega) (show N ≤ 12 by omega) f1 hd hne (fun i => decide ((encM K N d').getD i [] = (encM K N d).getD i [])) fun i _ hp => of_decide_eq_true hp
      have h2 := nodup_cnt (fun i => decide ((encM K N d').getD i [] = (encM K N d).getD i [])) N (xs.erase xs[k]) (hx.erase _) fun x hx' => by
        obtain ⟨hne2, hm⟩ := hx.mem_erase_iff.1 hx'
        refine ⟨hb x hm, decide_eq_true ?_⟩
        obtain ⟨i, hi, rfl⟩ := List.mem_iff_getElem.1 hm
        exact hat i hi fun e => hne2 (by subst e; rfl)
      rw [List.length_erase_of_mem (List.getElem_mem hkx)] at h2
      omega
  rw [e]; rfl
end
/-- What is in one row of numbers, each once, is no more than the other row. -/
theorem sub_len : ∀ (l m : List Nat), l.Nodup → (∀ x ∈ l, x ∈ m) → l.length ≤ m.length
  | [], m, _, _ => by simp
  | a :: r, m, h, hs => by
    rw [List.nodup_cons] at h
    have ha := hs a (by simp)
    have := sub_len r (m.erase a) h.2 fun x hx => (List.mem_erase_of_ne (fun e => h.1 (by rw [← e]; exact hx))).2 (hs x (by simp [hx]))
    rw [List.length_erase_of_mem ha] at this
    have hp := List.length_pos_of_mem ha
    rw [List.length_cons]; omega
end Go.Proofs.YtllfhaocdknejaaDoor
