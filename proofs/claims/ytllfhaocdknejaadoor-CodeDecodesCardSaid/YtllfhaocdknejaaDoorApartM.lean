/- Plain law: unlike blobs have fewer than K payloads in common. -/
import Derived.Test.YtllfhaocdknejaaDoorCodeM
import Derived.Test.YtllfhaocdknejaaDoorCodeEn
namespace Go.Proofs.YtllfhaocdknejaaDoor
theorem matOf_at {rows cols i j : Nat} {g : Nat → Nat → UInt8} (hi : i < rows) (hj : j < cols) : LA.at_ (matOf rows cols g) i j = g i j := by
  unfold LA.at_ matOf
  rw [List.getD_eq_getElem?_getD, List.getD_eq_getElem?_getD, List.getElem?_map, List.getElem?_range hi]
  simp only [Option.map_some, Option.getD_some, List.getElem?_map, List.getElem?_range hj]
theorem matOf_rowD {rows cols i : Nat} {g : Nat → Nat → UInt8} (hi : i < rows) : (matOf rows cols g).getD i [] = (List.range cols).map (g i) := by
  unfold matOf
  rw [List.getD_eq_getElem?_getD, List.getElem?_map, List.getElem?_range hi]; rfl
theorem encM_len (K N : Nat) (d : List UInt8) : (encM K N d).length = N := by unfold encM; rw [sprM_len, matOf_len]
theorem encM_row {K N i : Nat} {d : List UInt8} (hi : i < N) : (encM K N d).getD i [] = (List.range (sizeN K d.length)).map (sprAt (matOf N K (codeAt K)) (dataC K d) i) := by
  unfold encM sprM
  exact matOf_rowD (by rw [matOf_len]; exact hi)
theorem spr_code {K N i b : Nat} {d : List UInt8} (hi : i < N) : sprAt (matOf N K (codeAt K)) (dataC K d) i b = LA.sum K fun j => LA.mul (codeAt K i j) (LA.at_ (dataC K d) j b) := by
  unfold sprAt
  rw [dataC_length]
  exact LA.sum_congr fun j hj => by rw [matOf_at hi hj]
theorem head8_inj {m n : Nat} (hm : m ≤ 32768) (hn : n ≤ 32768) (h : head8 m = head8 n) : m = n := by
  unfold head8 at h
  simp only [List.cons.injEq, true_and, and_true] at h
  obtain ⟨h1, h2, h3⟩ := h
  have e1 := congrArg UInt8.toNat h1
  have e2 := congrArg UInt8.toNat h2
  have e3 := congrArg UInt8.toNat h3
  rw [UInt8.toNat_ofNat', UInt8.toNat_ofNat'] at e1 e2 e3
  omega
theorem whole_inj {K : Nat} {d e : List UInt8} (hd : d.length ≤ 32768) (he : e.length ≤ 32768) (h : wholeB K d = wholeB K e) : d = e := by
  unfold wholeB at h
  have h1 := congrArg (List.take 8) h
  rw [List.append_assoc, List.append_assoc, List.take_left' (head8_length _), List.take_left' (head8_length _)] at h1
  have hl := head8_inj hd he h1
  have h2 := congrArg (List.drop 8) h
  rw [List.append_assoc, List.append_assoc, List.drop_left' (head8_length _), List.drop_left' (head8_length _)] at h2
  have h3 := congrArg (List.take d.length) h2
  rw [List.take_left' rfl, List.take_left' hl.symm] at h3
  exact h3
/-- The data of two blobs, at each place the same: the same blob. -/
theorem data_inj2 {K : Nat} {d e : List UInt8} (hK : 1 ≤ K) (hd : d.length ≤ 32768) (he : e.length ≤ 32768) (hs : sizeN K d.length = sizeN K e.length) (h : ∀ j b, j < K → b < sizeN K d.length → LA.at_ (dataC K d) j b = LA.at_ (dataC K e) j b) : d = e := by
  refine whole_inj hd he (List.ext_getElem (by rw [whole_length hK, whole_length hK, hs]) fun t h1 h2 => ?_)
  have hp := sizeN_pos (m := d.length) hK
  have h3 := h1
  rw [whole_length hK] at h3
  have hb := Nat.mod_lt t hp
  have hj : t / sizeN K d.length < K := (Nat.div_lt_iff_lt_mul hp).2 (by rw [Nat.mul_comm]; exact h3)
  have h4 := h (t / sizeN K d.length) (t % sizeN K d.length) hj hb
  rw [dataC_at hj hb, dataC_at hj (by rw [← hs]; exact hb), ← hs] at h4
  have e1 : t / sizeN K d.length * sizeN K d.length + t % sizeN K d.length = t := by rw [Nat.mul_comm]; exact Nat.div_add_mod _ _
  rw [e1, List.getD_eq_getElem?_getD, List.getD_eq_getElem?_getD, List.getElem?_eq_getElem h1, List.getElem?_eq_getElem h2] at h4
  exact h4
theorem cntB_zero {p : Nat → Bool} : ∀ n, (∀ i, i < n → p i = false) → cntB p n = 0
  | 0, _ => rfl
  | n + 1, h => by rw [cntB_succ, cntB_zero n fun i hi => h i (by omega), h n (by omega)]; rfl
/-- Fewer than K payloads in common. -/
theorem apart_lt {K N : Nat} (hK : 1 ≤ K) (hKN : K ≤ N) (hN : N ≤ 12) {d e : List UInt8} (hd : d.length ≤ 32768) (he : e.length ≤ 32768) (hne : d ≠ e) (p : Nat → Bool) (hp : ∀ i, i < N → p i = true → (encM K N d).getD i [] = (encM K N e).getD i []) : cntB p N < K := by
  rcases Nat.lt_or_ge (cntB p N) K with h | h
  · exact h
  · exfalso
    by_cases hs : sizeN K d.length = sizeN K e.length
    · refine hne (data_inj2 hK hd he hs fun j b hj hb => ?_)
      have := mds hKN (by omega) p h (fun j => LA.at_ (dataC K d) j b ^^^ LA.at_ (dataC K e) j b) (fun i hi hpi => ?_) j hj
      · exact LA.xor_eq_zero.1 this
      · have h1 := hp i hi hpi
        rw [encM_row hi, encM_row hi, ← hs] at h1
        have h2 := congrArg (fun l : List UInt8 => l.getD b 0) h1
        simp only [List.getD_eq_getElem?_getD, List.getElem?_map, List.getElem?_range hb, Option.map_some, Option.getD_some] at h2
        rw [spr_code hi, spr_code hi] at h2
        rw [LA.sum_congr (g := fun j => LA.mul (codeAt K i j) (LA.at_ (dataC K d) j b) ^^^ LA.mul (codeAt K i j) (LA.at_ (dataC K e) j b)) fun j _ => LA.mul_xor _ _ _, LA.sum_xor, h2, LA.xor_self]
    · have h0 : cntB p N = 0 := cntB_zero N fun i hi => by
        cases hpi : p i with
        | false => rfl
        | true =>
          have h1 := congrArg List.length (hp i hi hpi)
          rw [encM_row hi, encM_row hi] at h1
          simp at h1
          exact absurd h1 hs
      omega
end Go.Proofs.YtllfhaocdknejaaDoor
