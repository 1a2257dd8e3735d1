/- Inverses: the plain laws, on. No program in sight. -/
import Derived.Test.YtojdodbedemkoaaSolLaw
namespace Go.Proofs.Ytojdodbedemkoaa
theorem mat_ext {A B : LA.Mat} {r c : Nat} (la : A.length = r) (lb : B.length = r) (ra : LA.Rect A c) (rb : LA.Rect B c) (h : ∀ i, i < r → ∀ j, j < c → LA.at_ A i j = LA.at_ B i j) : A = B := by
  refine List.ext_getElem (by rw [la, lb]) fun i h1 h2 => ?_
  have e1 : A.getD i [] = A[i] := by rw [List.getD_eq_getElem?_getD, List.getElem?_eq_getElem h1]; rfl
  have e2 : B.getD i [] = B[i] := by rw [List.getD_eq_getElem?_getD, List.getElem?_eq_getElem h2]; rfl
  have r1 := ra A[i] (List.getElem_mem h1)
  have r2 := rb B[i] (List.getElem_mem h2)
  refine List.ext_getElem (by rw [r1, r2]) fun j h3 h4 => ?_
  have := h i (by omega) j (by omega)
  unfold LA.at_ at this
  rw [e1, e2, List.getD_eq_getElem?_getD, List.getD_eq_getElem?_getD, List.getElem?_eq_getElem h3, List.getElem?_eq_getElem h4] at this
  simpa using this
theorem ap_unit {n j : Nat} (hj : j < n) (A : Nat → Nat → UInt8) (i : Nat) : ap n A (fun k => oneAt k j) i = A i j := sum_one n j hj (fun k => A i k)
def colM (p : List UInt8) : LA.Mat := p.map fun x => [x]
theorem colM_length (p : List UInt8) : (colM p).length = p.length := List.length_map ..
theorem colM_rect (p : List UInt8) : LA.Rect (colM p) 1 := fun r hr => by
  unfold colM at hr
  obtain ⟨x, _, rfl⟩ := List.mem_map.1 hr
  rfl
theorem colM_at (p : List UInt8) (i : Nat) : LA.at_ (colM p) i 0 = p.getD i 0 := by
  unfold LA.at_ colM
  have : (p.map fun x => [x]).getD i [] = (p[i]?.map fun x => [x]).getD [] := by rw [List.getD_eq_getElem?_getD, List.getElem?_map]
  rw [this, List.getD_eq_getElem?_getD (l := p)]
  cases p[i]? <;> rfl
section
variable {m : LA.Mat} {n : Nat} (h : LA.Rect m n) (hl : m.length = n) (hf : (LA.dn m n).2 = n)
include h hl hf
theorem turn_back : (LA.dn (turnOf m) n).2 = n ∧ turnOf (turnOf m) = m := by
  obtain ⟨rx, hm⟩ := turn_full h hl hf
  have lx := turnOf_length m
  rw [hl] at lx
  generalize turnOf m = X at *
  have fx : (LA.dn X n).2 = n := (full_ap rx lx).2 fun y hy j hj => by
    have := (hm (fun _ => 0) y).2 fun i hi => (hy i hi).symm
    rw [← this j hj]; exact ap_zero fun _ _ => rfl
  refine ⟨fx, ?_⟩
  obtain ⟨rx2, hx⟩ := turn_full rx lx fx
  have lx2 := turnOf_length X
  rw [lx] at lx2
  generalize turnOf X = Z at *
  refine mat_ext lx2 hl rx2 h fun i hi j hj => ?_
  have e1 := (hx (ap n (LA.at_ Z) (fun k => oneAt k j)) (fun k => oneAt k j)).2 fun _ _ => rfl
  have e2 := (hm (fun k => oneAt k j) (ap n (LA.at_ Z) (fun k => oneAt k j))).2 (fun i hi => (e1 i hi).symm) i hi
  rw [ap_unit hj, ap_unit hj] at e2
  exact e2.symm
theorem turn_ones : matOf n n (prodAt m (turnOf m)) = matOf n n oneAt ∧ matOf n n (prodAt (turnOf m) m) = matOf n n oneAt := by
  obtain ⟨rx, hm⟩ := turn_full h hl hf
  have lx := turnOf_length m
  rw [hl] at lx
  generalize turnOf m = X at *
  refine ⟨matOf_congr fun i hi j hj => ?_, matOf_congr fun i hi j hj => ?_⟩
  · have := (hm (fun k => LA.at_ X k j) (fun k => oneAt k j)).2 (fun i _ => (ap_unit hj _ i).symm) i hi
    unfold prodAt
    rw [lx]; exact this
  · have := (hm (fun k => oneAt k j) (ap n (LA.at_ m) (fun k => oneAt k j))).1 (fun _ _ => rfl) i hi
    unfold prodAt
    rw [hl]
    refine Eq.trans ?_ this.symm
    exact LA.sum_congr fun k _ => by rw [ap_unit hj]
theorem solve_tells {v : List UInt8} : ∀ i, i < n → prodAt m (colM (solveOf m v)) i 0 = v.getD i 0 := by
  obtain ⟨e1, e2, e3, e4, e5, e6⟩ := LA.beside_full (k := 1) h hl hf (fun i => [v.getD i 0]) (fun i _ => rfl)
  have hp : ∀ k, k < n → (solveOf m v).getD k 0 = LA.at_ (LA.dn (LA.beside m fun i => [v.getD i 0]) n).1 k n := fun k hk => by
    unfold solveOf wideV
    rw [hl, range_at _ hk, e1]
  have := (e6 (fun k => (solveOf m v).getD k 0) (fun _ => 1)).2 fun i hi => by
    rw [hp i hi]
    show _ = 0 ^^^ LA.mul _ 1
    rw [LA.mul_one, LA.zero_xor]; rfl
  intro i hi
  have h1 := this i hi
  have ls : (colM (solveOf m v)).length = n := by rw [colM_length]; unfold solveOf; simp [hl]
  unfold prodAt
  rw [ls]
  have e : LA.dot 1 [v.getD i 0] (fun _ => 1) = v.getD i 0 := by
    show 0 ^^^ LA.mul _ 1 = _
    rw [LA.mul_one, LA.zero_xor]; rfl
  rw [e] at h1
  rw [← h1]
  exact LA.sum_congr fun k _ => by rw [colM_at]; rfl
end
theorem turned_cases {m : LA.Mat} {n : Nat} (h : LA.Rect m n) (hl : m.length = n) (h1 : 1 ≤ n) (h2 : n ≤ 255) :
    (∃ X, turnM m = (X, 0) ∧ rankM m = ((n : Int), 0) ∧ turnM X = (m, 0) ∧ LA.Rect X n ∧ X.length = n ∧ matOf n n (prodAt m X) = matOf n n oneAt ∧ matOf n n (prodAt X m) = matOf n n oneAt ∧
      ∀ v : List UInt8, v.length = n → ∃ P, solveM m v = (P, 0) ∧ P.length = n ∧ ∀ i, i < n → prodAt m (colM P) i 0 = v.getD i 0) ∨
    (∃ d : Nat, d < n ∧ turnM m = ([], 5) ∧ rankM m = ((d : Int), 0)) := by
  have em := turnM_sq h hl h1 h2
  have hc := cols_rect h (by omega)
  have hmay := may_of h (by omega) (by omega) h1 h2
  have er : rankM m = (((LA.dn m n).2 : Int), 0) := by unfold rankM; rw [hmay, hc]; rfl
  have l1 := dn2_le hl
  by_cases hf : (LA.dn m n).2 = n
  · obtain ⟨rx, _⟩ := turn_full h hl hf
    have lx := turnOf_length m
    rw [hl] at lx
    obtain ⟨b1, b2⟩ := turn_back h hl hf
    obtain ⟨o1, o2⟩ := turn_ones h hl hf
    refine Or.inl ⟨turnOf m, by rw [em, if_neg (by omega)], by rw [er, hf], ?_, rx, lx, o1, o2, fun v hv => ⟨solveOf m v, ?_, by unfold solveOf; simp [hl], solve_tells h hl hf⟩⟩
    · rw [turnM_sq rx lx h1 h2, if_neg (by omega), b2]
    · unfold solveM
      rw [hmay, hc, hl, hv, decide_eq_true rfl, hf, Bool.and_true, Bool.and_true, if_pos rfl, if_neg (by omega)]
  · exact Or.inr ⟨_, by omega, by rw [em, if_pos (by omega)], er⟩
end Go.Proofs.Ytojdodbedemkoaa
