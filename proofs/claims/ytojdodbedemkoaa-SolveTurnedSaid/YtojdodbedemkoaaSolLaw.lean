/- Inverses: the plain laws. No program in sight. -/
import Derived.Test.YtojdodbedemkoaaLaw04a
namespace Go.Proofs.Ytojdodbedemkoaa
def ap (n : Nat) (A : Nat → Nat → UInt8) (x : Nat → UInt8) (i : Nat) : UInt8 := LA.sum n fun j => LA.mul (A i j) (x j)
theorem ap_congr {n : Nat} {A B : Nat → Nat → UInt8} {x y : Nat → UInt8} {i : Nat} (h : ∀ j, j < n → A i j = B i j) (k : ∀ j, j < n → x j = y j) : ap n A x i = ap n B y i :=
  LA.sum_congr fun j hj => by rw [h j hj, k j hj]
theorem ap_zero {n : Nat} {A : Nat → Nat → UInt8} {x : Nat → UInt8} {i : Nat} (h : ∀ j, j < n → x j = 0) : ap n A x i = 0 := LA.sum_zero fun j hj => by rw [h j hj, LA.mul_zero]
theorem ap_pr {n : Nat} {A B : Nat → Nat → UInt8} {x : Nat → UInt8} {i : Nat} : ap n (fun i j => LA.sum n fun k => LA.mul (A i k) (B k j)) x i = ap n A (ap n B x) i := by
  unfold ap
  have e1 : (fun j => LA.mul (LA.sum n fun k => LA.mul (A i k) (B k j)) (x j)) = fun j => LA.sum n fun k => LA.mul (LA.mul (A i k) (B k j)) (x j) := by funext j; rw [LA.sum_mul]
  have e2 : (fun j => LA.mul (A i j) (LA.sum n fun k => LA.mul (B j k) (x k))) = fun j => LA.sum n fun k => LA.mul (LA.mul (A i j) (B j k)) (x k) := by
    funext j; rw [LA.mul_sum]; exact LA.sum_congr fun k _ => (LA.mul_assoc _ _ _).symm
  rw [e1, e2, LA.sum_comm]
theorem sol_ap {m : LA.Mat} {n : Nat} (hl : m.length = n) {x : Nat → UInt8} : LA.Sol m n x ↔ ∀ i, i < n → ap n (LA.at_ m) x i = 0 := by rw [LA.sol_iff, hl]; exact Iff.rfl
theorem full_ap {m : LA.Mat} {n : Nat} (h : LA.Rect m n) (hl : m.length = n) : (LA.dn m n).2 = n ↔ ∀ x, (∀ i, i < n → ap n (LA.at_ m) x i = 0) → ∀ j, j < n → x j = 0 := by
  rw [LA.full_iff h hl]
  exact forall_congr' fun x => by rw [sol_ap hl]
theorem drop_getD (l : List UInt8) (n j : Nat) : (l.drop n).getD j 0 = l.getD (n + j) 0 := by
  rw [List.getD_eq_getElem?_getD, List.getD_eq_getElem?_getD, List.getElem?_drop]
theorem turnOf_length (m : LA.Mat) : (turnOf m).length = m.length := by
  unfold turnOf wideM; rw [List.length_map, dn_len, beside_length]
/-- A square matrix of full rank, and the one that package solve hands back. -/
theorem turn_full {m : LA.Mat} {n : Nat} (h : LA.Rect m n) (hl : m.length = n) (hf : (LA.dn m n).2 = n) :
    LA.Rect (turnOf m) n ∧ ∀ x y : Nat → UInt8, (∀ i, i < n → ap n (LA.at_ m) x i = y i) ↔ ∀ i, i < n → x i = ap n (LA.at_ (turnOf m)) y i := by
  obtain ⟨e1, e2, e3, e4, e5, e6⟩ := LA.beside_full h hl hf (unitRow m.length) (fun i _ => unitRow_length _ _)
  rw [hl] at e1 e2 e3 e4 e5 e6
  have ew : turnOf m = (LA.dn (LA.beside m (unitRow n)) n).1.map (List.drop n) := by unfold turnOf wideM; rw [hl, e1]
  have eat : ∀ i j, LA.at_ (turnOf m) i j = LA.at_ (LA.dn (LA.beside m (unitRow n)) n).1 i (n + j) := fun i j => by
    rw [ew]
    unfold LA.at_
    rw [show ((LA.dn (LA.beside m (unitRow n)) n).1.map (List.drop n)).getD i [] = ((LA.dn (LA.beside m (unitRow n)) n).1.getD i []).drop n from by
      rw [List.getD_eq_getElem?_getD, List.getD_eq_getElem?_getD, List.getElem?_map]
      cases (LA.dn (LA.beside m (unitRow n)) n).1[i]? <;> simp]
    rw [drop_getD]
  refine ⟨fun r hr => ?_, fun x y => ?_⟩
  · rw [ew] at hr
    obtain ⟨r0, h0, rfl⟩ := List.mem_map.1 hr
    rw [List.length_drop, e4 r0 h0]; omega
  · have := e6 x y
    have ey : ∀ i, i < n → LA.dot n (unitRow n i) y = y i := fun i hi => by
      have : LA.dot n (unitRow n i) y = LA.sum n fun k => LA.mul (oneAt i k) (y k) := LA.sum_congr fun k hk => by rw [unitRow_at hk]
      rw [this]; exact one_sum n i hi y
    constructor
    · intro hx i hi
      rw [this.1 (fun i hi => by rw [ey i hi]; exact hx i hi) i hi]
      exact LA.sum_congr fun j _ => by rw [eat]
    · intro hx i hi
      have := this.2 (fun i hi => by rw [hx i hi]; exact LA.sum_congr fun j _ => by rw [eat]) i hi
      rw [ey i hi] at this; exact this
theorem prod_ap {a b : LA.Mat} {n : Nat} (hb : b.length = n) {x : Nat → UInt8} {i : Nat} (hi : i < n) : ap n (LA.at_ (matOf n n (prodAt a b))) x i = ap n (LA.at_ a) (ap n (LA.at_ b) x) i := by
  rw [← ap_pr]
  exact ap_congr (fun j hj => by rw [at_matOf _ hi hj]; unfold prodAt; rw [hb]) fun _ _ => rfl
theorem matOf_rect (r c : Nat) (g : Nat → Nat → UInt8) : LA.Rect (matOf r c g) c := fun x hx => by
  unfold matOf at hx
  obtain ⟨i, _, rfl⟩ := List.mem_map.1 hx
  simp
section
variable {a b : LA.Mat} {n : Nat} (ha : LA.Rect a n) (hb : LA.Rect b n) (la : a.length = n) (lb : b.length = n)
include ha hb la lb
theorem prod_full : (LA.dn (matOf n n (prodAt a b)) n).2 = n ↔ (LA.dn a n).2 = n ∧ (LA.dn b n).2 = n := by
  have hm := full_ap (matOf_rect n n (prodAt a b)) (matOf_length n n _)
  constructor
  · intro h
    have h1 := hm.1 h
    have fb : (LA.dn b n).2 = n := (full_ap hb lb).2 fun x hx => h1 x fun i hi => by rw [prod_ap lb hi]; exact ap_zero hx
    refine ⟨(full_ap ha la).2 fun x hx => ?_, fb⟩
    obtain ⟨_, hi⟩ := turn_full hb lb fb
    have e1 := (hi (ap n (LA.at_ (turnOf b)) x) x).2 fun _ _ => rfl
    have e2 := h1 (ap n (LA.at_ (turnOf b)) x) fun i hi => by
      rw [prod_ap lb hi, ap_congr (B := LA.at_ a) (y := x) (fun _ _ => rfl) e1]; exact hx i hi
    intro j hj
    rw [← e1 j hj]; exact ap_zero e2
  · rintro ⟨fa, fb⟩
    refine hm.2 fun x hx => (full_ap hb lb).1 fb x fun i hi => (full_ap ha la).1 fa _ (fun i hi => ?_) i hi
    rw [← prod_ap lb hi]; exact hx i hi
theorem turn_prod (fa : (LA.dn a n).2 = n) (fb : (LA.dn b n).2 = n) : turnOf (matOf n n (prodAt a b)) = matOf n n (prodAt (turnOf b) (turnOf a)) := by
  have fm := (prod_full ha hb la lb).2 ⟨fa, fb⟩
  obtain ⟨rm, hm⟩ := turn_full (matOf_rect n n (prodAt a b)) (matOf_length n n _) fm
  obtain ⟨_, hia⟩ := turn_full ha la fa
  obtain ⟨_, hib⟩ := turn_full hb lb fb
  have lm := turnOf_length (matOf n n (prodAt a b))
  rw [matOf_length] at lm
  have lta := turnOf_length a
  rw [la] at lta
  generalize turnOf (matOf n n (prodAt a b)) = X at *
  have key : ∀ i, i < n → ∀ j, j < n → LA.at_ X i j = prodAt (turnOf b) (turnOf a) i j := fun i hi j hj => by
    have c1 := (hm (ap n (LA.at_ X) (fun k => oneAt k j)) (fun k => oneAt k j)).2 fun _ _ => rfl
    have c2 := (hia (ap n (LA.at_ b) (ap n (LA.at_ X) (fun k => oneAt k j))) (fun k => oneAt k j)).1 fun i hi => by rw [← prod_ap lb hi]; exact c1 i hi
    have c3 := (hib (ap n (LA.at_ X) (fun k => oneAt k j)) (ap n (LA.at_ (turnOf a)) (fun k => oneAt k j))).1 c2 i hi
    have u : ∀ (A : Nat → Nat → UInt8) i, ap n A (fun k => oneAt k j) i = A i j := fun A i => sum_one n j hj (fun k => A i k)
    rw [u] at c3
    rw [c3]
    unfold prodAt
    rw [lta]
    exact LA.sum_congr fun k _ => by rw [u]
  by_cases h0 : n = 0
  · subst h0
    have : X = [] := List.length_eq_zero_iff.1 lm
    rw [this]; rfl
  · refine List.ext_getElem (by rw [lm, matOf_length]) fun i h1 h2 => ?_
    have hr := rm X[i] (List.getElem_mem h1)
    have e1 : X[i] = X.getD i [] := by rw [List.getD_eq_getElem?_getD, List.getElem?_eq_getElem h1]; rfl
    have e2 : (matOf n n (prodAt (turnOf b) (turnOf a)))[i] = (matOf n n (prodAt (turnOf b) (turnOf a))).getD i [] := by rw [List.getD_eq_getElem?_getD, List.getElem?_eq_getElem h2]; rfl
    rw [e2, matOf_row _ (by omega)]
    refine List.ext_getElem (by rw [hr]; simp) fun j h3 h4 => ?_
    have := key i (by omega) j (by omega)
    unfold LA.at_ at this
    rw [← e1, List.getD_eq_getElem?_getD, List.getElem?_eq_getElem h3] at this
    simpa using this
end
/-- What Turn tells of a square matrix. -/
theorem turnM_sq {m : LA.Mat} {n : Nat} (h : LA.Rect m n) (hl : m.length = n) (h1 : 1 ≤ n) (h2 : n ≤ 255) : turnM m = if (LA.dn m n).2 < n then ([], 5) else (turnOf m, 0) := by
  have hc := cols_rect h (by omega)
  unfold turnM
  rw [may_of h (by omega) (by omega) h1 h2, hc, hl, decide_eq_true rfl]; rfl
theorem dn2_le {m : LA.Mat} {n : Nat} (hl : m.length = n) : (LA.dn m n).2 ≤ n := by have := (LA.dn_length m n).2; omega
theorem product_cases {a b : LA.Mat} {n : Nat} (ha : LA.Rect a n) (hb : LA.Rect b n) (la : a.length = n) (lb : b.length = n) (h1 : 1 ≤ n) (h2 : n ≤ 12) :
    (∃ X Y, turnM a = (X, 0) ∧ turnM b = (Y, 0) ∧ turnM (matOf n n (prodAt a b)) = (matOf n n (prodAt Y X), 0) ∧ LA.Rect X n ∧ LA.Rect Y n ∧ X.length = n ∧ Y.length = n) ∨
    (∃ X, turnM a = (X, 0) ∧ turnM b = ([], 5) ∧ turnM (matOf n n (prodAt a b)) = ([], 5)) ∨
    (∃ Y r, turnM a = ([], 5) ∧ turnM b = (Y, r) ∧ turnM (matOf n n (prodAt a b)) = ([], 5)) := by
  have ea := turnM_sq ha la h1 (by omega)
  have eb := turnM_sq hb lb h1 (by omega)
  have em := turnM_sq (matOf_rect n n (prodAt a b)) (matOf_length n n _) h1 (by omega)
  have hp := prod_full ha hb la lb
  have l1 := dn2_le la
  have l2 := dn2_le lb
  have l3 := dn2_le (matOf_length n n (prodAt a b))
  by_cases fa : (LA.dn a n).2 = n
  · by_cases fb : (LA.dn b n).2 = n
    · refine Or.inl ⟨turnOf a, turnOf b, ?_, ?_, ?_, (turn_full ha la fa).1, (turn_full hb lb fb).1, by rw [turnOf_length, la], by rw [turnOf_length, lb]⟩
      · rw [ea, if_neg (by omega)]
      · rw [eb, if_neg (by omega)]
      · rw [em, if_neg (by have := hp.2 ⟨fa, fb⟩; omega), turn_prod ha hb la lb fa fb]
    · refine Or.inr (Or.inl ⟨turnOf a, by rw [ea, if_neg (by omega)], by rw [eb, if_pos (by omega)], ?_⟩)
      rw [em, if_pos]
      rcases Nat.lt_or_ge (LA.dn (matOf n n (prodAt a b)) n).2 n with h | h
      · exact h
      · exact absurd (hp.1 (by omega)).2 fb
  · refine Or.inr (Or.inr ⟨_, _, by rw [ea, if_pos (by omega)], rfl, ?_⟩)
    rw [em, if_pos]
    rcases Nat.lt_or_ge (LA.dn (matOf n n (prodAt a b)) n).2 n with h | h
    · exact h
    · exact absurd (hp.1 (by omega)).1 fa
end Go.Proofs.Ytojdodbedemkoaa
