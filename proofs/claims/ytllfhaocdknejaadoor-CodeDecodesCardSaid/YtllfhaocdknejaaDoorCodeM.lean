/- What package matrix tells, as plain functions. No program in sight. -/
import Derived.Test.YtllfhaocdknejaaDoorText
import Derived.Test.YtllfhaocdknejaaDoorLin
namespace Go.Proofs.YtllfhaocdknejaaDoor
open Go.RowKit

/-- May a code be? -/
def codeB (k n : Int) : Bool := decide (1 ≤ k ∧ k ≤ n ∧ n ≤ 12)
/-- The matrix of what a function says. -/
def matOf (rows cols : Nat) (g : Nat → Nat → UInt8) : List (List UInt8) := (List.range rows).map fun i => (List.range cols).map (g i)
def oneAt (i j : Nat) : UInt8 := if i = j then 1 else 0
/-- A code's matrix at row i, column j. -/
def codeAt (k : Nat) (i j : Nat) : UInt8 := if i < k then oneAt i j else LA.inv (UInt8.ofNat (i ^^^ j))

/-- A code's matrix, or how it is refused. -/
def ofM (k n : Int) : List (List UInt8) × Int := if codeB k n then (matOf n.toNat k.toNat (codeAt k.toNat), 0) else ([], 1)
def oneM (n : Int) : List (List UInt8) × Int := if decide (1 ≤ n ∧ n ≤ 12) then (matOf n.toNat n.toNat oneAt, 0) else ([], 1)
/-- What a call hands back: a matrix in new memory, and an error's number. -/
def GiveMat (w : World) (r : List (List UInt8) × Int) (e : Ending) (w' : World) : Prop := ∃ v, e = .returned (.tuple #[v, .int .i64 r.2]) ∧ MatIn (w.heap.size ≤ ·) w'.heap v r.1 ∧ Keeps w w'
/-- A list of bytes in new memory, and an error's number. -/
def GiveRow (w : World) (r : List UInt8 × Int) (e : Ending) (w' : World) : Prop := ∃ v, e = .returned (.tuple #[v, .int .i64 r.2]) ∧ RowIn (w.heap.size ≤ ·) w'.heap v r.1 ∧ Keeps w w'
theorem GiveMat.err {w w' : World} {r : Int} (k : Keeps w w') : GiveMat w ([], r) (.returned (.tuple #[.slice none 0 0, .int .i64 r])) w' := ⟨_, rfl, SeqIn.nil _ _ _ _, k⟩
theorem GiveRow.err {w w' : World} {r : Int} (k : Keeps w w') : GiveRow w ([], r) (.returned (.tuple #[.slice none 0 0, .int .i64 r])) w' := ⟨_, rfl, SeqIn.nil _ _ _ _, k⟩
end Go.Proofs.YtllfhaocdknejaaDoor
/- What package code tells, as plain functions on lists of bytes. No program in sight. -/
namespace Go.Proofs.YtllfhaocdknejaaDoor
open Go.RowKit
/-- How long payloads are. -/
def sizeN (K m : Nat) : Nat := (8 + m + K - 1) / K
/-- The same, or how it is refused. -/
def sizeC (k n len : Int) : Int × Int := if codeB k n && decide (0 ≤ len) then (if 32768 < len then (0, 40) else (((sizeN k.toNat len.toNat : Nat) : Int), 0)) else (0, 1)
def head8 (m : Nat) : List UInt8 := [0, 0, 0, 0, 0, UInt8.ofNat (m / 65536), UInt8.ofNat (m / 256), UInt8.ofNat m]
/-- The length, the blob, noughts. -/
def wholeB (K : Nat) (d : List UInt8) : List UInt8 := head8 d.length ++ d ++ List.replicate (sizeN K d.length * K - (8 + d.length)) 0
def cutR (s : Nat) (l : List UInt8) (j : Nat) : List UInt8 := (l.drop (j * s)).take s
/-- The first payloads of a blob. -/
def dataC (K : Nat) (d : List UInt8) : List (List UInt8) := (List.range K).map (cutR (sizeN K d.length) (wholeB K d))
/-- The sums of the products of a matrix's rows and payloads. -/
def sprAt (m l : List (List UInt8)) (i b : Nat) : UInt8 := LA.sum l.length fun j => LA.mul (LA.at_ m i j) (LA.at_ l j b)
def sprM (m l : List (List UInt8)) (s : Nat) : List (List UInt8) := matOf m.length s (sprAt m l)
/-- A blob's payloads. -/
def encM (K N : Nat) (d : List UInt8) : List (List UInt8) := sprM (matOf N K (codeAt K)) (dataC K d) (sizeN K d.length)
def encC (k n : Int) (d : List UInt8) : List ByteArray × Int := if codeB k n then (if 32768 < d.length then ([], 40) else ((encM k.toNat n.toNat d).map strB, 0)) else ([], 1)
section
variable {K m : Nat}
theorem sizeN_mul (hK : 0 < K) : 8 + m ≤ sizeN K m * K ∧ sizeN K m * K < 8 + m + K := by
  unfold sizeN
  have h1 := Nat.div_add_mod (8 + m + K - 1) K
  have h2 := Nat.mod_lt (8 + m + K - 1) hK
  rw [Nat.mul_comm K] at h1
  omega
theorem sizeN_pos (hK : 0 < K) : 1 ≤ sizeN K m := by
  have := sizeN_mul (m := m) hK
  rcases Nat.eq_zero_or_pos (sizeN K m) with h | h
  · rw [h] at this; omega
  · exact h
theorem sizeN_le (hK : 0 < K) : sizeN K m ≤ 8 + m := by
  have h := sizeN_mul (m := m) hK
  rcases Nat.lt_or_ge (8 + m) (sizeN K m) with hlt | hge
  · have h1 : (8 + m + 1) * K ≤ sizeN K m * K := Nat.mul_le_mul_right _ hlt
    have h2 : (8 + m) * 1 ≤ (8 + m) * K := Nat.mul_le_mul_left _ hK
    rw [Nat.add_mul] at h1
    omega
  · exact hge
/-- The least number from there on that K divides. -/
theorem sizeN_least (hK : 0 < K) {a : Nat} (h1 : 8 + m ≤ a) (h2 : a % K = 0) : sizeN K m * K ≤ a := by
  have h := sizeN_mul (m := m) hK
  have h3 := Nat.div_add_mod a K
  rw [h2, Nat.add_zero, Nat.mul_comm] at h3
  rcases Nat.lt_or_ge (a / K) (sizeN K m) with hlt | hge
  · have h4 : (a / K + 1) * K ≤ sizeN K m * K := Nat.mul_le_mul_right _ hlt
    rw [Nat.add_mul] at h4
    omega
  · have h4 : sizeN K m * K ≤ a / K * K := Nat.mul_le_mul_right _ hge
    omega
end
theorem sizeC_bad {k n len : Int} (h : codeB k n = false) : sizeC k n len = (0, 1) := by unfold sizeC; rw [h]; rfl
theorem sizeC_neg {k n len : Int} (h : len < 0) : sizeC k n len = (0, 1) := by unfold sizeC; rw [decide_eq_false (by omega), Bool.and_false]; rfl
theorem sizeC_big {k n len : Int} (h : codeB k n = true) (h1 : 32768 < len) : sizeC k n len = (0, 40) := by unfold sizeC; rw [h, decide_eq_true (by omega), if_pos (by rfl), if_pos h1]
theorem sizeC_yes {K m : Nat} {n : Int} (h : codeB K n = true) (h1 : m ≤ 32768) : sizeC K n m = (((sizeN K m : Nat) : Int), 0) := by
  unfold sizeC
  rw [h, decide_eq_true (by omega), if_pos (by rfl), if_neg (by omega)]; rfl
theorem head8_length (m : Nat) : (head8 m).length = 8 := rfl
theorem whole_length {K : Nat} {d : List UInt8} (hK : 0 < K) : (wholeB K d).length = sizeN K d.length * K := by
  have := sizeN_mul (m := d.length) hK
  unfold wholeB
  rw [List.length_append, List.length_append, head8_length, List.length_replicate]
  omega
theorem cutR_length {s : Nat} {l : List UInt8} {j K : Nat} (hl : l.length = s * K) (hj : j < K) : (cutR s l j).length = s := by
  unfold cutR
  rw [List.length_take, List.length_drop, hl]
  have : (j + 1) * s ≤ K * s := Nat.mul_le_mul_right _ hj
  rw [Nat.add_mul, Nat.mul_comm K] at this
  omega
theorem cutR_at {s : Nat} {l : List UInt8} {j b : Nat} (hb : b < s) : (cutR s l j).getD b 0 = l.getD (j * s + b) 0 := by
  unfold cutR
  rw [List.getD_eq_getElem?_getD, List.getElem?_take, if_pos hb, List.getElem?_drop, List.getD_eq_getElem?_getD]
theorem dataC_length (K : Nat) (d : List UInt8) : (dataC K d).length = K := by unfold dataC; simp
theorem dataC_row {K : Nat} {d : List UInt8} {j : Nat} (hj : j < K) : (dataC K d).getD j [] = cutR (sizeN K d.length) (wholeB K d) j := by
  unfold dataC
  rw [List.getD_eq_getElem?_getD, List.getElem?_map, List.getElem?_range hj]; rfl
theorem dataC_at {K : Nat} {d : List UInt8} {j b : Nat} (hj : j < K) (hb : b < sizeN K d.length) : LA.at_ (dataC K d) j b = (wholeB K d).getD (j * sizeN K d.length + b) 0 := by
  unfold LA.at_
  rw [dataC_row hj, cutR_at hb]
end Go.Proofs.YtllfhaocdknejaaDoor
/- Plain law: of a code's matrix any K rows tell the K numbers (the rows behind the first K are 1/(i+j)): no program in sight. -/
namespace Go.Proofs.YtllfhaocdknejaaDoor
namespace LA
def lsum : List Nat → (Nat → UInt8) → UInt8
  | [], _ => 0
  | j :: r, f => f j ^^^ lsum r f
theorem lsum_nil (f : Nat → UInt8) : lsum [] f = 0 := rfl
theorem lsum_cons (j : Nat) (r : List Nat) (f : Nat → UInt8) : lsum (j :: r) f = f j ^^^ lsum r f := rfl
theorem lsum_congr {l : List Nat} {f g : Nat → UInt8} (h : ∀ j ∈ l, f j = g j) : lsum l f = lsum l g := by
  induction l with
  | nil => rfl
  | cons j r ih => rw [lsum_cons, lsum_cons, h j (by simp), ih fun k hk => h k (by simp [hk])]
theorem lsum_mul (a : UInt8) (l : List Nat) (f : Nat → UInt8) : mul a (lsum l f) = lsum l fun j => mul a (f j) := by
  induction l with
  | nil => exact mul_zero a
  | cons j r ih => rw [lsum_cons, lsum_cons, mul_xor, ih]
theorem lsum_xor (l : List Nat) (f g : Nat → UInt8) : lsum l f ^^^ lsum l g = lsum l fun j => f j ^^^ g j := by
  induction l with
  | nil => exact xor_self 0
  | cons j r ih =>
    rw [lsum_cons, lsum_cons, lsum_cons, ← ih, xor_assoc, xor_assoc, xor_left_comm (lsum r f)]
theorem lsum_append (l k : List Nat) (f : Nat → UInt8) : lsum (l ++ k) f = lsum l f ^^^ lsum k f := by
  induction l with
  | nil => exact (zero_xor _).symm
  | cons j r ih => rw [List.cons_append, lsum_cons, lsum_cons, ih, xor_assoc]
/-- The sum of all is the sum of those that count. -/
theorem lsum_filter (p : Nat → Bool) (f : Nat → UInt8) : ∀ n, (∀ j, j < n → p j = false → f j = 0) → sum n f = lsum ((List.range n).filter p) f
  | 0, _ => rfl
  | n + 1, h => by
    rw [List.range_succ, List.filter_append, lsum_append, ← lsum_filter p f n fun j hj => h j (by omega)]
    show sum n f ^^^ f n = _
    congr 1
    cases hp : p n with
    | true => rw [List.filter_cons_of_pos hp, List.filter_nil, lsum_cons, lsum_nil, xor_zero]
    | false => rw [List.filter_cons_of_neg (by rw [hp]; decide), List.filter_nil]; exact h n (by omega) hp
theorem lsum_zero (l : List Nat) : lsum l (fun _ => 0) = 0 := by
  induction l with
  | nil => rfl
  | cons a r ih => rw [lsum_cons, ih, xor_zero]
theorem mul_left_comm (a b c : UInt8) : mul a (mul b c) = mul b (mul a c) := by rw [← mul_assoc, mul_comm a b, mul_assoc]
theorem xor_ne {a b : UInt8} (h : a ≠ b) : a ^^^ b ≠ 0 := fun e => h (xor_eq_zero.1 e)
theorem inv_mul {a : UInt8} (h : a ≠ 0) : mul (inv a) a = 1 := by rw [mul_comm, mul_inv h]
/-- (i+j0)/(i+j) is 1 + (j+j0)/(i+j). -/
theorem frac_one {i j j0 : UInt8} (h : i ≠ j) : mul (inv (i ^^^ j)) (i ^^^ j0) = 1 ^^^ mul (j ^^^ j0) (inv (i ^^^ j)) := by
  have e : i ^^^ j0 = (i ^^^ j) ^^^ (j ^^^ j0) := by rw [xor_assoc, ← xor_assoc j, xor_self, zero_xor]
  rw [e, mul_xor, inv_mul (xor_ne h), mul_comm (inv _)]
/-- 1/(i+j) + 1/(k+j) is (i+k)/((i+j)(k+j)). -/
theorem frac_two {i k j : UInt8} (hi : i ≠ j) (hk : k ≠ j) : inv (i ^^^ j) ^^^ inv (k ^^^ j) = mul (i ^^^ k) (mul (inv (k ^^^ j)) (inv (i ^^^ j))) := by
  have e : i ^^^ k = (k ^^^ j) ^^^ (i ^^^ j) := by rw [xor_comm k j, xor_assoc, ← xor_assoc k, xor_comm k i, xor_assoc i k j, xor_left_comm j i, xor_left_comm j k, xor_self, xor_zero]
  rw [e, xor_mul, ← mul_assoc (k ^^^ j), mul_inv (xor_ne hk), one_mul, mul_left_comm (i ^^^ j), mul_inv (xor_ne hi), mul_one]
theorem cauchy (x : Nat → UInt8) : ∀ (J I : List Nat) (v : Nat → UInt8), J.Pairwise (fun a b => x a ≠ x b) → I.Pairwise (fun a b => x a ≠ x b) → J.length ≤ I.length → (∀ i ∈ I, ∀ j ∈ J, x i ≠ x j) →
    (∀ i ∈ I, lsum J (fun j => mul (v j) (inv (x i ^^^ x j))) = 0) → ∀ j ∈ J, v j = 0
  | [], _, _, _, _, _, _, _, _, h => by cases h
  | j0 :: J, [], _, _, _, hl, _, _, _, _ => by simp at hl
  | j0 :: J, i0 :: I, v, hJ, hI, hl, hne, hs, j, hj => by
    rw [List.pairwise_cons] at hJ hI
    have hE : ∀ i ∈ i0 :: I, v j0 ^^^ lsum J (fun j => mul (v j) (mul (inv (x i ^^^ x j)) (x i ^^^ x j0))) = 0 := fun i hi => by
      have h0 := hs i hi
      rw [lsum_cons] at h0
      have h1 : mul (x i ^^^ x j0) (mul (v j0) (inv (x i ^^^ x j0)) ^^^ lsum J fun j => mul (v j) (inv (x i ^^^ x j))) = 0 := by rw [h0, mul_zero]
      rw [mul_xor, mul_left_comm, mul_inv (xor_ne (hne i hi j0 (by simp))), mul_one, lsum_mul] at h1
      rw [← h1]
      congr 1
      exact lsum_congr fun k _ => by rw [mul_left_comm (x i ^^^ x j0), mul_comm (x i ^^^ x j0)]
    have hw : ∀ k ∈ J, mul (v k) (mul (x k ^^^ x j0) (inv (x i0 ^^^ x k))) = 0 := by
      refine cauchy x J I (fun k => mul (v k) (mul (x k ^^^ x j0) (inv (x i0 ^^^ x k)))) hJ.2 hI.2 (by simp at hl; exact hl) (fun i hi k hk => hne i (by simp [hi]) k (by simp [hk])) fun i hi => ?_
      have e1 := hE i (by simp [hi])
      have e2 := hE i0 (by simp)
      have e3 : lsum J (fun j => mul (v j) (mul (inv (x i ^^^ x j)) (x i ^^^ x j0))) ^^^ lsum J (fun j => mul (v j) (mul (inv (x i0 ^^^ x j)) (x i0 ^^^ x j0))) = 0 := by
        rw [← xor_eq_zero.1 e1, ← xor_eq_zero.1 e2, xor_self]
      rw [lsum_xor] at e3
      have e4 : (lsum J fun j => mul (v j) (mul (inv (x i ^^^ x j)) (x i ^^^ x j0)) ^^^ mul (v j) (mul (inv (x i0 ^^^ x j)) (x i0 ^^^ x j0))) = mul (x i ^^^ x i0) (lsum J fun k => mul (mul (v k) (mul (x k ^^^ x j0) (inv (x i0 ^^^ x k)))) (inv (x i ^^^ x k))) := by
        rw [lsum_mul]
        refine lsum_congr fun k hk => ?_
        have n1 : x i ≠ x k := hne i (by simp [hi]) k (by simp [hk])
        have n2 : x i0 ≠ x k := hne i0 (by simp) k (by simp [hk])
        rw [← mul_xor, frac_one n1, frac_one n2]
        have e5 : (1 ^^^ mul (x k ^^^ x j0) (inv (x i ^^^ x k))) ^^^ (1 ^^^ mul (x k ^^^ x j0) (inv (x i0 ^^^ x k))) = mul (x k ^^^ x j0) (inv (x i ^^^ x k)) ^^^ mul (x k ^^^ x j0) (inv (x i0 ^^^ x k)) := by
          rw [xor_assoc, xor_left_comm _ 1, ← xor_assoc 1 1, xor_self, zero_xor]
        rw [e5, ← mul_xor, frac_two n1 n2]
        rw [mul_left_comm (x k ^^^ x j0), mul_left_comm (v k), mul_assoc (v k), mul_assoc (x k ^^^ x j0)]
      rw [e4] at e3
      rcases mul_eq_zero.1 e3 with h | h
      · exact absurd h (xor_ne fun e => hI.1 i hi e.symm)
      · exact h
    have hz : ∀ k ∈ J, v k = 0 := fun k hk => by
      rcases mul_eq_zero.1 (hw k hk) with h | h
      · exact h
      · rcases mul_eq_zero.1 h with h | h
        · exact absurd h (xor_ne fun e => hJ.1 k hk e.symm)
        · exact absurd h (inv_ne (xor_ne (hne i0 (by simp) k (by simp [hk]))))
    rcases List.mem_cons.1 hj with rfl | h
    · have e := hE i0 (by simp)
      have e0 : lsum J (fun k => mul (v k) (mul (inv (x i0 ^^^ x k)) (x i0 ^^^ x j))) = lsum J fun _ => 0 := lsum_congr fun k hk => by rw [hz k hk, zero_mul]
      have e1 : lsum J (fun _ => 0) = 0 := lsum_zero J
      rw [e0, e1, xor_zero] at e
      exact e
    · exact hz j h
end LA
/-- How many of the first n are such. -/
def cntB (p : Nat → Bool) (n : Nat) : Nat := ((List.range n).filter p).length
theorem cntB_succ (p : Nat → Bool) (n : Nat) : cntB p (n + 1) = cntB p n + if p n then 1 else 0 := by
  unfold cntB
  rw [List.range_succ, List.filter_append, List.length_append]
  cases h : p n <;> simp [h]
theorem cntB_le (p : Nat → Bool) : ∀ n, cntB p n ≤ n
  | 0 => Nat.le_refl _
  | n + 1 => by rw [cntB_succ]; have := cntB_le p n; split <;> omega
theorem cntB_not (p : Nat → Bool) : ∀ n, cntB p n + cntB (fun i => !p i) n = n
  | 0 => rfl
  | n + 1 => by rw [cntB_succ, cntB_succ]; have := cntB_not p n; cases p n <;> simp <;> omega
theorem cntB_split (p : Nat → Bool) (k : Nat) : ∀ n, cntB p (k + n) = cntB p k + (((List.range (k + n)).filter fun i => decide (k ≤ i) && p i)).length
  | 0 => by
    have : ((List.range (k + 0)).filter fun i => decide (k ≤ i) && p i) = [] := by
      rw [List.filter_eq_nil_iff]; intro a ha; rw [List.mem_range] at ha; simp; omega
    rw [this]; rfl
  | n + 1 => by
    rw [← Nat.add_assoc, cntB_succ, cntB_split p k n, List.range_succ, List.filter_append, List.length_append]
    cases h : p (k + n) <;> simp [h] <;> omega
theorem ofNat_ne {i j : Nat} (hi : i < 256) (hj : j < 256) (h : i ≠ j) : UInt8.ofNat i ≠ UInt8.ofNat j := fun e => h (by
  have := congrArg UInt8.toNat e
  rw [UInt8.toNat_ofNat', UInt8.toNat_ofNat'] at this; omega)
theorem range_apart (p : Nat → Bool) {n : Nat} (hn : n ≤ 256) : ((List.range n).filter p).Pairwise fun a b => UInt8.ofNat a ≠ UInt8.ofNat b := by
  refine List.Pairwise.filter _ ?_
  refine (List.pairwise_lt_range).imp_of_mem fun {a b} ha hb h => ?_
  rw [List.mem_range] at ha hb
  exact ofNat_ne (by omega) (by omega) (by omega)
/-- ANY K ROWS: what K rows or more make noughts of are noughts. -/
theorem mds {K N : Nat} (hKN : K ≤ N) (hN : N ≤ 256) (p : Nat → Bool) (hp : K ≤ cntB p N) (v : Nat → UInt8) (h : ∀ i, i < N → p i = true → LA.sum K (fun j => LA.mul (codeAt K i j) (v j)) = 0) : ∀ j, j < K → v j = 0 := by
  have h1 : ∀ j, j < K → p j = true → v j = 0 := fun j hj hpj => by
    have e := h j (by omega) hpj
    rw [LA.sum_single hj (fun i hi hne => by unfold codeAt oneAt; rw [if_pos hj, if_neg (fun e => hne e.symm), LA.zero_mul])] at e
    unfold codeAt oneAt at e
    rw [if_pos hj, if_pos rfl, LA.one_mul] at e
    exact e
  have hc := LA.cauchy UInt8.ofNat ((List.range K).filter fun j => !p j) ((List.range N).filter fun i => decide (K ≤ i) && p i) v (range_apart _ (by omega)) (range_apart _ hN) ?_ ?_ ?_
  · intro j hj
    cases hpj : p j with
    | true => exact h1 j hj hpj
    | false => exact hc j (by rw [List.mem_filter, List.mem_range]; exact ⟨hj, by rw [hpj]; rfl⟩)
  · have e1 := cntB_not p K
    have e2 := cntB_split p K (N - K)
    rw [show K + (N - K) = N by omega] at e2
    unfold cntB at *
    omega
  · intro i hi j hj
    rw [List.mem_filter, List.mem_range] at hi hj
    have : K ≤ i := by simpa using (Bool.and_eq_true_iff.1 hi.2).1
    exact ofNat_ne (by omega) (by omega) (by omega)
  · intro i hi
    rw [List.mem_filter, List.mem_range, Bool.and_eq_true] at hi
    have hk : K ≤ i := by simpa using hi.2.1
    rw [← LA.lsum_filter (fun j => !p j) (fun j => LA.mul (v j) (LA.inv (UInt8.ofNat i ^^^ UInt8.ofNat j))) K fun j hj hpj => by rw [h1 j hj (by simpa using hpj), LA.zero_mul]]
    rw [← h i hi.1 hi.2.2]
    refine LA.sum_congr fun j hj => ?_
    unfold codeAt
    rw [if_neg (by omega), LA.mul_comm, UInt8.ofNat_xor]
end Go.Proofs.YtllfhaocdknejaaDoor
