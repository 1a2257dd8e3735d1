/- Plain law: of a code's matrix any K rows tell the K numbers (the rows behind the first K are 1/(i+j)): no program in sight. -/
import Derived.Test.YtllfhaocdknejaaDoorCodeM
namespace Go.Proofs.YtllfhaocdknejaaDoor
namespace LA
def lsum : List Nat → (Nat → UInt8) → UInt8
  | [], _ => 0
  | j :: r, f => f j ^^^ lsum r f
theorem lsum_nil (f : Nat → UInt8) : lsum [] f = 0 := rfl
theorem lsum_cons (j : Nat) (r : List Nat) (f : Nat → UInt8) : lsum (j :: r) f = f j ^^^ lsum r f := rfl
theorem lsum_congr {l : List Nat} {f g : Nat → UInt8} (h : ∀ j ∈ l, f j = g j) : lsum l f = lsum l g := by
  induction l with
  | nil => rfl
  | cons j r ih => rw [lsum_cons, lsum_cons, h j (by simp), ih fun k hk => h k (by simp [hk])]
theorem lsum_mul (a : UInt8) (l : List Nat) (f : Nat → UInt8) : mul a (lsum l f) = lsum l fun j => mul a (f j) := by
  induction l with
  | nil => exact mul_zero a
  | cons j r ih => rw [lsum_cons, lsum_cons, mul_xor, ih]
theorem lsum_xor (l : List Nat) (f g : Nat → UInt8) : lsum l f ^^^ lsum l g = lsum l fun j => f j ^^^ g j := by
  induction l with
  | nil => exact xor_self 0
  | cons j r ih =>
    rw [lsum_cons, lsum_cons, lsum_cons, ← ih, xor_assoc, xor_assoc, xor_left_comm (lsum r f)]
theorem lsum_append (l k : List Nat) (f : Nat → UInt8) : lsum (l ++ k) f = lsum l f ^^^ lsum k f := by
  induction l with
  | nil => exact (zero_xor _).symm
  | cons j r ih => rw [List.cons_append, lsum_cons, lsum_cons, ih, xor_assoc]
/-- The sum of all is the sum of those that count. -/
theorem lsum_filter (p : Nat → Bool) (f : Nat → UInt8) : ∀ n, (∀ j, j < n → p j = false → f j = 0) → sum n f = lsum ((List.range n).filter p) f
  | 0, _ => rfl
  | n + 1, h => by
    rw [List.range_succ, List.filter_append, lsum_append, ← lsum_filter p f n fun j hj => h j (by omega)]
    show sum n f ^^^ f n = _
    congr 1
    cases hp : p n with
    | true => rw [List.filter_cons_of_pos hp, List.filter_nil, lsum_cons, lsum_nil, xor_zero]
    | false => rw [List.filter_cons_of_neg (by rw [hp]; decide), List.filter_nil]; exact h n (by omega) hp
theorem lsum_zero (l : List Nat) : lsum l (fun _ => 0) = 0 := by
  induction l with
  | nil => rfl
  | cons a r ih => rw [lsum_cons, ih, xor_zero]
theorem mul_left_comm (a b c : UInt8) : mul a (mul b c) = mul b (mul a c) := by rw [← mul_assoc, mul_comm a b, mul_assoc]
theorem xor_ne {a b : UInt8} (h : a ≠ b) : a ^^^ b ≠ 0 := fun e => h (xor_eq_zero.1 e)
theorem inv_mul {a : UInt8} (h : a ≠ 0) : mul (inv a) a = 1 := by rw [mul_comm, mul_inv h]
/-- (i+j0)/(i+j) is 1 + (j+j0)/(i+j). -/
theorem frac_one {i j j0 : UInt8} (h : i ≠ j) : mul (inv (i ^^^ j)) (i ^^^ j0) = 1 ^^^ mul (j ^^^ j0) (inv (i ^^^ j)) := by
  have e : i ^^^ j0 = (i ^^^ j) ^^^ (j ^^^ j0) := by rw [xor_assoc, ← xor_assoc j, xor_self, zero_xor]
  rw [e, mul_xor, inv_mul (xor_ne h), mul_comm (inv _)]
/-- 1/(i+j) + 1/(k+j) is (i+k)/((i+j)(k+j)). -/
theorem frac_two {i k j : UInt8} (hi : i ≠ j) (hk : k ≠ j) : inv (i ^^^ j) ^^^ inv (k ^^^ j) = mul (i ^^^ k) (mul (inv (k ^^^ j)) (inv (i ^^^ j))) := by
  have e : i ^^^ k = (k ^^^ j) ^^^ (i ^^^ j) := by rw [xor_comm k j, xor_assoc, ← xor_assoc k, xor_comm k i, xor_assoc i k j, xor_left_comm j i, xor_left_comm j k, xor_self, xor_zero]
  rw [e, xor_mul, ← mul_assoc (k ^^^ j), mul_inv (xor_ne hk), one_mul, mul_left_comm (i ^^^ j), mul_inv (xor_ne hi), mul_one]
theorem cauchy (x : Nat → UInt8) : ∀ (J I : List Nat) (v : Nat → UInt8), J.Pairwise (fun a b => x a ≠ x b) → I.Pairwise (fun a b => x a ≠ x b) → J.length ≤ I.length → (∀ i ∈ I, ∀ j ∈ J, x i ≠ x j) →
    (∀ i ∈ I, lsum J (fun j => mul (v j) (inv (x i ^^^ x j))) = 0) → ∀ j ∈ J, v j = 0
  | [], _, _, _, _, _, _, _, _, h => by cases h
  | j0 :: J, [], _, _, _, hl, _, _, _, _ => by simp at hl
  | j0 :: J, i0 :: I, v, hJ, hI, hl, hne, hs, j, hj => by
    rw [List.pairwise_cons] at hJ hI
    have hE : ∀ i ∈ i0 :: I, v j0 ^^^ lsum J (fun j => mul (v j) (mul (inv (x i ^^^ x j)) (x i ^^^ x j0))) = 0 := fun i hi => by
      have h0 := hs i hi
      rw [lsum_cons] at h0
      have h1 : mul (x i ^^^ x j0) (mul (v j0) (inv (x i ^^^ x j0)) ^^^ lsum J fun j => mul (v j) (inv (x i ^^^ x j))) = 0 := by rw [h0, mul_zero]
      rw [mul_xor, mul_left_comm, mul_inv (xor_ne (hne i hi j0 (by simp))), mul_one, lsum_mul] at h1
      rw [← h1]
      congr 1
      exact lsum_congr fun k _ => by rw [mul_left_comm (x i ^^^ x j0), mul_comm (x i ^^^ x j0)]
    have hw : ∀ k ∈ J, mul (v k) (mul (x k ^^^ x j0) (inv (x i0 ^^^ x k))) = 0 := by
      refine cauchy x J I (fun k => mul (v k) (mul (x k ^^^ x j0) (inv (x i0 ^^^ x k)))) hJ.2 hI.2 (by simp at hl; exact hl) (fun i hi k hk => hne i (by simp [hi]) k (by simp [hk])) fun i hi => ?_
      have e1 := hE i (by simp [hi])
      have e2 := hE i0 (by simp)
      have e3 : lsum J (fun j => mul (v j) (mul (inv (x i ^^^ x j)) (x i ^^^ x j0))) ^^^ lsum J (fun j => mul (v j) (mul (inv (x i0 ^^^ x j)) (x i0 ^^^ x j0))) = 0 := by
        rw [← xor_eq_zero.1 e1, ← xor_eq_zero.1 e2, xor_self]
      rw [lsum_xor] at e3
      have e4 : (lsum J fun j => mul (v j) (mul (inv (x i ^^^ x j)) (x i ^^^ x j0)) ^^^ mul (v j) (mul (inv (x i0 ^^^ x j)) (x i0 ^^^ x j0))) = mul (x i ^^^ x i0) (lsum J fun k => mul (mul (v k) (mul (x k ^^^ x j0) (inv (x i0 ^^^ x k)))) (inv (x i ^^^ x k))) := by
        rw [lsum_mul]
        refine lsum_congr fun k hk => ?_
        have n1 : x i ≠ x k := hne i (by simp [hi]) k (by simp [hk])
        have n2 : x i0 ≠ x k := hne i0 (by simp) k (by simp [hk])
        rw [← mul_xor, frac_one n1, frac_one n2]
        have e5 : (1 ^^^ mul (x k ^^^ x j0) (inv (x i ^^^ x k))) ^^^ (1 ^^^ mul (x k ^^^ x j0) (inv (x i0 ^^^ x k))) = mul (x k ^^^ x j0) (inv (x i ^^^ x k)) ^^^ mul (x k ^^^ x j0) (inv (x i0 ^^^ x k)) := by
          rw [xor_assoc, xor_left_comm _ 1, ← xor_assoc 1 1, xor_self, zero_xor]
        rw [e5, ← mul_xor, frac_two n1 n2]
        rw [mul_left_comm (x k ^^^ x j0), mul_left_comm (v k), mul_assoc (v k), mul_assoc (x k ^^^ x j0)]
      rw [e4] at e3
      rcases mul_eq_zero.1 e3 with h | h
      · exact absurd h (xor_ne fun e => hI.1 i hi e.symm)
      · exact h
    have hz : ∀ k ∈ J, v k = 0 := fun k hk => by
      rcases mul_eq_zero.1 (hw k hk) with h | h
      · exact h
      · rcases mul_eq_zero.1 h with h | h
        · exact absurd h (xor_ne fun e => hJ.1 k hk e.symm)
        · exact absurd h (inv_ne (xor_ne (hne i0 (by simp) k (by simp [hk]))))
    rcases List.mem_cons.1 hj with rfl | h
    · have e := hE i0 (by simp)
      have e0 : lsum J (fun k => mul (v k) (mul (inv (x i0 ^^^ x k)) (x i0 ^^^ x j))) = lsum J fun _ => 0 := lsum_congr fun k hk => by rw [hz k hk, zero_mul]
      have e1 : lsum J (fun _ => 0) = 0 := lsum_zero J
      rw [e0, e1, xor_zero] at e
      exact e
    · exact hz j h
end LA
/-- How many of the first n are such. -/
def cntB (p : Nat → Bool) (n : Nat) : Nat := ((List.range n).filter p).length
theorem cntB_succ (p : Nat → Bool) (n : Nat) : cntB p (n + 1) = cntB p n + if p n then 1 else 0 := by
  unfold cntB
  rw [List.range_succ, List.filter_append, List.length_append]
  cases h : p n <;> simp [h]
theorem cntB_le (p : Nat → Bool) : ∀ n, cntB p n ≤ n
  | 0 => Nat.le_refl _
  | n + 1 => by rw [cntB_succ]; have := cntB_le p n; split <;> omega
theorem cntB_not (p : Nat → Bool) : ∀ n, cntB p n + cntB (fun i => !p i) n = n
  | 0 => rfl
  | n + 1 => by rw [cntB_succ, cntB_succ]; have := cntB_not p n; cases p n <;> simp <;> omega
theorem cntB_split (p : Nat → Bool) (k : Nat) : ∀ n, cntB p (k + n) = cntB p k + (((List.range (k + n)).filter fun i => decide (k ≤ i) && p i)).length
  | 0 => by
    have : ((List.range (k + 0)).filter fun i => decide (k ≤ i) && p i) = [] := by
      rw [List.filter_eq_nil_iff]; intro a ha; rw [List.mem_range] at ha; simp; omega
    rw [this]; rfl
  | n + 1 => by
    rw [← Nat.add_assoc, cntB_succ, cntB_split p k n, List.range_succ, List.filter_append, List.length_append]
    cases h : p (k + n) <;> simp [h] <;> omega
theorem ofNat_ne {i j : Nat} (hi : i < 256) (hj : j < 256) (h : i ≠ j) : UInt8.ofNat i ≠ UInt8.ofNat j := fun e => h (by
  have := congrArg UInt8.toNat e
  rw [UInt8.toNat_ofNat', UInt8.toNat_ofNat'] at this; omega)
theorem range_apart (p : Nat → Bool) {n : Nat} (hn : n ≤ 256) : ((List.range n).filter p).Pairwise fun a b => UInt8.ofNat a ≠ UInt8.ofNat b := by
  refine List.Pairwise.filter _ ?_
  refine (List.pairwise_lt_range).imp_of_mem fun {a b} ha hb h => ?_
  rw [List.mem_range] at ha hb
  exact ofNat_ne (by omega) (by omega) (by omega)
/-- ANY K ROWS: what K rows or more make noughts of are noughts. -/
theorem mds {K N : Nat} (hKN : K ≤ N) (hN : N ≤ 256) (p : Nat → Bool) (hp : K ≤ cntB p N) (v : Nat → UInt8) (h : ∀ i, i < N → p i = true → LA.sum K (fun j => LA.mul (codeAt K i j) (v j)) = 0) : ∀ j, j < K → v j = 0 := by
  have h1 : ∀ j, j < K → p j = true → v j = 0 := fun j hj hpj => by
    have e := h j (by omega) hpj
    rw [LA.sum_single hj (fun i hi hne => by unfold codeAt oneAt; rw [if_pos hj, if_neg (fun e => hne e.symm), LA.zero_mul])] at e
    unfold codeAt oneAt at e
    rw [if_pos hj, if_pos rfl, LA.one_mul] at e
    exact e
  have hc := LA.cauchy UInt8.ofNat ((List.range K).filter fun j => !p j) ((List.range N).filter fun i => decide (K ≤ i) && p i) v (range_apart _ (by omega)) (range_apart _ hN) ?_ ?_ ?_
  · intro j hj
    cases hpj : p j with
    | true => exact h1 j hj hpj
    | false => exact hc j (by rw [List.mem_filter, List.mem_range]; exact ⟨hj, by rw [hpj]; rfl⟩)
  · have e1 := cntB_not p K
    have e2 := cntB_split p K (N - K)
    rw [show K + (N - K) = N by omega] at e2
    unfold cntB at *
    omega
  · intro i hi j hj
    rw [List.mem_filter, List.mem_range] at hi hj
    have : K ≤ i := by simpa using (Bool.and_eq_true_iff.1 hi.2).1
    exact ofNat_ne (by omega) (by omega) (by omega)
  · intro i hi
    rw [List.mem_filter, List.mem_range, Bool.and_eq_true] at hi
    have hk : K ≤ i := by simpa using hi.2.1
    rw [← LA.lsum_filter (fun j => !p j) (fun j => LA.mul (v j) (LA.inv (UInt8.ofNat i ^^^ UInt8.ofNat j))) K fun j hj hpj => by rw [h1 j hj (by simpa using hpj), LA.zero_mul]]
    rw [← h i hi.1 hi.2.2]
    refine LA.sum_congr fun j hj => ?_
    unfold codeAt
    rw [if_neg (by omega), LA.mul_comm, UInt8.ofNat_xor]
end Go.Proofs.YtllfhaocdknejaaDoor
