/- Inverses: the plain laws that package code needs. No program in sight. -/
import Derived.Test.YtllfhaocdknejaaDoorSpec5
import Derived.Test.YtllfhaocdknejaaDoorRows5
import Derived.Test.YtllfhaocdknejaaDoorApartM
import Derived.Test.YtllfhaocdknejaaDoorHand
namespace Go.Proofs.YtllfhaocdknejaaDoor
theorem one_sum (n i : Nat) (hi : i < n) (f : Nat → UInt8) : LA.sum n (fun k => LA.mul (oneAt i k) (f k)) = f i := by
  rw [LA.sum_single hi]
  · unfold oneAt; rw [if_pos rfl, LA.one_mul]
  · intro k _ hk; unfold oneAt; rw [if_neg (fun e => hk e.symm), LA.zero_mul]
def ap (n : Nat) (A : Nat → Nat → UInt8) (x : Nat → UInt8) (i : Nat) : UInt8 := LA.sum n fun j => LA.mul (A i j) (x j)
theorem ap_congr {n : Nat} {A B : Nat → Nat → UInt8} {x y : Nat → UInt8} {i : Nat} (h : ∀ j, j < n → A i j = B i j) (k : ∀ j, j < n → x j = y j) : ap n A x i = ap n B y i :=
  LA.sum_congr fun j hj => by rw [h j hj, k j hj]
theorem ap_zero {n : Nat} {A : Nat → Nat → UInt8} {x : Nat → UInt8} {i : Nat} (h : ∀ j, j < n → x j = 0) : ap n A x i = 0 := LA.sum_zero fun j hj => by rw [h j hj, LA.mul_zero]
theorem ap_pr {n : Nat} {A B : Nat → Nat → UInt8} {x : Nat → UInt8} {i : Nat} : ap n (fun i j => LA.sum n fun k => LA.mul (A i k) (B k j)) x i = ap n A (ap n B x) i := by
  unfold ap
  have e1 : (fun j => LA.mul (LA.sum n fun k => LA.mul (A i k) (B k j)) (x j)) = fun j => LA.sum n fun k => LA.mul (LA.mul (A i k) (B k j)) (x j) := by funext j; rw [LA.sum_mul]
  have e2 : (fun j => LA.mul (A i j) (LA.sum n fun k => LA.mul (B j k) (x k))) = fun j => LA.sum n fun k => LA.mul (LA.mul (A i j) (B j k)) (x k) := by
    funext j; rw [LA.mul_sum]; exact LA.sum_congr fun k _ => (LA.mul_assoc _ _ _).symm
  rw [e1, e2, LA.sum_comm]
theorem sol_ap {m : LA.Mat} {n : Nat} (hl : m.length = n) {x : Nat → UInt8} : LA.Sol m n x ↔ ∀ i, i < n → ap n (LA.at_ m) x i = 0 := by rw [LA.sol_iff, hl]; exact Iff.rfl
theorem full_ap {m : LA.Mat} {n : Nat} (h : LA.Rect m n) (hl : m.length = n) : (LA.dn m n).2 = n ↔ ∀ x, (∀ i, i < n → ap n (LA.at_ m) x i = 0) → ∀ j, j < n → x j = 0 := by
  rw [LA.full_iff h hl]
  exact forall_congr' fun x => by rw [sol_ap hl]
theorem drop_getD (l : List UInt8) (n j : Nat) : (l.drop n).getD j 0 = l.getD (n + j) 0 := by
  rw [List.getD_eq_getElem?_getD, List.getD_eq_getElem?_getD, List.getElem?_drop]
theorem turnOf_length (m : LA.Mat) : (turnOf m).length = m.length := by
  unfold turnOf wideM; rw [List.length_map, dn_len, beside_length]
/-- A square matrix of full rank, and the one that package solve hands back. -/
theorem turn_full {m : LA.Mat} {n : Nat} (h : LA.Rect m n) (hl : m.length = n) (hf : (LA.dn m n).2 = n) :
    LA.Rect (turnOf m) n ∧ ∀ x y : Nat → UInt8, (∀ i, i < n → ap n (LA.at_ m) x i = y i) ↔ ∀ i, i < n → x i = ap n (LA.at_ (turnOf m)) y i := by
  obtain ⟨e1, e2, e3, e4, e5, e6⟩ := LA.beside_full h hl hf (unitRow m.length) (fun i _ => unitRow_length _ _)
  rw [hl] at e1 e2 e3 e4 e5 e6
  have ew : turnOf m = (LA.dn (LA.beside m (unitRow n)) n).1.map (List.drop n) := by unfold turnOf wideM; rw [hl, e1]
  have eat : ∀ i j, LA.at_ (turnOf m) i j = LA.at_ (LA.dn (LA.beside m (unitRow n)) n).1 i (n + j) := fun i j => by
    rw [ew]
    unfold LA.at_
    rw [show ((LA.dn (LA.beside m (unitRow n)) n).1.map (List.drop n)).getD i [] = ((LA.dn (LA.beside m (unitRow n)) n).1.getD i []).drop n from by
      rw [List.getD_eq_getElem?_getD, List.getD_eq_getElem?_getD, List.getElem?_map]
      cases (LA.dn (LA.beside m (unitRow n)) n).1[i]? <;> simp]
    rw [drop_getD]
  refine ⟨fun r hr => ?_, fun x y => ?_⟩
  · rw [ew] at hr
    obtain ⟨r0, h0, rfl⟩ := List.mem_map.1 hr
    rw [List.length_drop, e4 r0 h0]; omega
  · have := e6 x y
    have ey : ∀ i, i < n → LA.dot n (unitRow n i) y = y i := fun i hi => by
      have : LA.dot n (unitRow n i) y = LA.sum n fun k => LA.mul (oneAt i k) (y k) := LA.sum_congr fun k hk => by rw [unitRow_at hk]
      rw [this]; exact one_sum n i hi y
    constructor
    · intro hx i hi
      rw [this.1 (fun i hi => by rw [ey i hi]; exact hx i hi) i hi]
      exact LA.sum_congr fun j _ => by rw [eat]
    · intro hx i hi
      have := this.2 (fun i hi => by rw [hx i hi]; exact LA.sum_congr fun j _ => by rw [eat]) i hi
      rw [ey i hi] at this; exact this
theorem mat_ext {A B : LA.Mat} {r c : Nat} (la : A.length = r) (lb : B.length = r) (ra : LA.Rect A c) (rb : LA.Rect B c) (h : ∀ i, i < r → ∀ j, j < c → LA.at_ A i j = LA.at_ B i j) : A = B := by
  refine List.ext_getElem (by rw [la, lb]) fun i h1 h2 => ?_
  have e1 : A.getD i [] = A[i] := by rw [List.getD_eq_getElem?_getD, List.getElem?_eq_getElem h1]; rfl
  have e2 : B.getD i [] = B[i] := by rw [List.getD_eq_getElem?_getD, List.getElem?_eq_getElem h2]; rfl
  have r1 := ra A[i] (List.getElem_mem h1)
  have r2 := rb B[i] (List.getElem_mem h2)
  refine List.ext_getElem (by rw [r1, r2]) fun j h3 h4 => ?_
  have := h i (by omega) j (by omega)
  unfold LA.at_ at this
  rw [e1, e2, List.getD_eq_getElem?_getD, List.getD_eq_getElem?_getD, List.getElem?_eq_getElem h3, List.getElem?_eq_getElem h4] at this
  simpa using this
end Go.Proofs.YtllfhaocdknejaaDoor
/- What Rows and Turn tell, where they may be. No program in sight. -/
namespace Go.Proofs.YtllfhaocdknejaaDoor
theorem matOf_length (r c : Nat) (g : Nat → Nat → UInt8) : (matOf r c g).length = r := by unfold matOf; simp
theorem matOf_head {r c : Nat} (g : Nat → Nat → UInt8) (hr : 1 ≤ r) : ((matOf r c g).headD []).length = c := by
  obtain ⟨n, rfl⟩ : ∃ n, r = n + 1 := ⟨r - 1, by omega⟩
  unfold matOf; rw [List.range_succ_eq_map]; simp
theorem may_matOf {t r c : Nat} (g : Nat → Nat → UInt8) (h1 : 1 ≤ r) (h2 : r ≤ t) (h3 : 1 ≤ c) (h4 : c ≤ t) : mayB t (matOf r c g) = true := by
  rw [mayB_iff, matOf_length, matOf_head g h1]
  refine ⟨h1, h2, h3, h4, fun row hr => ?_⟩
  unfold matOf at hr
  obtain ⟨i, _, rfl⟩ := List.mem_map.1 hr
  simp
theorem rowsM_make {m : List (List UInt8)} {l : List Int} (h1 : mayB 12 m = true) (h2 : 1 ≤ l.length) (h3 : l.length ≤ 12) (h4 : ∀ x ∈ l, 0 ≤ x ∧ x < (m.length : Int)) : rowsM m l = (pick m l, 0) := by
  unfold rowsM
  rw [h1, decide_eq_true ⟨h2, h3⟩, if_pos rfl, if_pos rfl, if_pos]
  exact List.all_eq_true.2 fun x hx => by unfold okAt; exact decide_eq_true (h4 x hx)
theorem cols_rect {D : List (List UInt8)} {N : Nat} (h : LA.Rect D N) (h1 : 1 ≤ D.length) : colsN D = N := by
  unfold colsN
  cases D with
  | nil => simp at h1
  | cons r D => exact h r (List.mem_cons_self ..)
theorem may_of {D : List (List UInt8)} {N : Nat} (h : LA.Rect D N) (h1 : 1 ≤ D.length) (h2 : D.length ≤ 255) (h3 : 1 ≤ N) (h4 : N ≤ 255) : mayB 255 D = true := by
  have e := cols_rect h h1
  unfold colsN at e
  exact mayB_iff.2 ⟨h1, h2, by omega, by omega, fun r hr => by rw [e]; exact h r hr⟩
/-- What Turn tells of a square matrix. -/
theorem turnM_sq {m : LA.Mat} {n : Nat} (h : LA.Rect m n) (hl : m.length = n) (h1 : 1 ≤ n) (h2 : n ≤ 255) : turnM m = if (LA.dn m n).2 < n then ([], 5) else (turnOf m, 0) := by
  have hc := cols_rect h (by omega)
  unfold turnM
  rw [may_of h (by omega) (by omega) h1 h2, hc, hl, decide_eq_true rfl]; rfl
end Go.Proofs.YtllfhaocdknejaaDoor
/- What package code tells of payloads at hand, as plain functions; the plain law: the blob of payloads is the one whose payloads they are. No program in sight. -/
namespace Go.Proofs.YtllfhaocdknejaaDoor
/-- A number out of bytes. -/
def beN (l : List UInt8) : Nat := l.foldl (fun a c => a * 256 + c.toNat) 0
theorem beN_snoc (l : List UInt8) (c : UInt8) : beN (l ++ [c]) = beN l * 256 + c.toNat := by unfold beN; rw [List.foldl_append]; rfl
def bytesP (ps : List ByteArray) : List (List UInt8) := ps.map fun p => p.data.toList
def sizeP (ps : List ByteArray) : Nat := (ps.headD ⟨#[]⟩).size
def evenP (ps : List ByteArray) : Bool := ps.all fun p => p.size == sizeP ps
def backM (K N : Nat) (hv : List Int) : List (List UInt8) := turnOf (pick (matOf N K (codeAt K)) (hv.take K))
/-- The first payloads out of those at hand. -/
def firstM (K N : Nat) (hv : List Int) (ps : List ByteArray) : List (List UInt8) := sprM (backM K N hv) (bytesP (ps.take K)) (sizeP ps)
/-- The blob of the first payloads' bytes, if there is one. -/
def blobL (K s : Nat) (W : List UInt8) : Option (List UInt8) :=
  if 8 ≤ W.length ∧ beN (W.take 8) ≤ 32768 ∧ sizeN K (beN (W.take 8)) = s ∧ ((W.drop (8 + beN (W.take 8))).all fun x => x == 0) = true then some ((W.drop 8).take (beN (W.take 8))) else none
/-- Do rows have these payloads? -/
def haveB (M : List (List UInt8)) (hv : List Int) (ps : List ByteArray) : Bool := (hv.zip ps).all fun x => decide (strB (M.getD x.1.toNat []) = x.2)
def decD (K N : Nat) (hv : List Int) (ps : List ByteArray) : Option (List UInt8) :=
  if evenP ps && decide (sizeP ps ≠ 0) then
    match blobL K (sizeP ps) (firstM K N hv ps).flatten with
    | some d => if haveB (sprM (matOf N K (codeAt K)) (firstM K N hv ps) (sizeP ps)) hv ps then some d else none
    | none => none
  else none
def n3 (W : List UInt8) : Nat := (W.getD 5 0).toNat * 65536 + (W.getD 6 0).toNat * 256 + (W.getD 7 0).toNat
def rblobL (W : List UInt8) : Option (List UInt8) :=
  if 8 ≤ W.length ∧ W.take 5 = [0, 0, 0, 0, 0] ∧ n3 W ≤ 32768 ∧ 8 + n3 W ≤ W.length then some ((W.drop 8).take (n3 W)) else none
def rdecD (K N : Nat) (hv : List Int) (ps : List ByteArray) : Option (List UInt8) :=
  if evenP ps then
    match rblobL (firstM K N hv ps).flatten with
    | some d => if haveB (encM K N d) hv ps then some d else none
    | none => none
  else none
/-- These are payloads of this blob. -/
def Fits (K N : Nat) (hv : List Int) (ps : List ByteArray) (d : List UInt8) : Prop := d.length ≤ 32768 ∧ haveB (encM K N d) hv ps = true
theorem haveB_iff {M : List (List UInt8)} {hv : List Int} {ps : List ByteArray} (hl : hv.length = ps.length) : haveB M hv ps = true ↔ ∀ i (h : i < hv.length), strB (M.getD hv[i].toNat []) = ps[i]'(by omega) := by
  unfold haveB
  rw [List.all_eq_true]
  constructor
  · intro h i hi
    have := h (hv[i], ps[i]'(by omega)) (by
      rw [List.mem_iff_getElem]
      exact ⟨i, by rw [List.length_zip]; omega, by rw [List.getElem_zip]⟩)
    exact of_decide_eq_true this
  · intro h x hx
    obtain ⟨i, hi, rfl⟩ := List.mem_iff_getElem.1 hx
    rw [List.length_zip] at hi
    rw [List.getElem_zip]
    exact decide_eq_true (h i (by omega))
/-- Rows that are cut out of bytes, put together. -/
theorem flat_rows : ∀ (L : List (List UInt8)) (s : Nat), (∀ r ∈ L, r.length = s) → L.flatten.length = s * L.length ∧ ∀ j, j < L.length → cutR s L.flatten j = L.getD j []
  | [], s, _ => ⟨by simp, fun j hj => by simp at hj⟩
  | r :: L, s, h => by
    have hr := h r (by simp)
    obtain ⟨h1, h2⟩ := flat_rows L s fun x hx => h x (by simp [hx])
    refine ⟨by rw [List.flatten_cons, List.length_append, h1, hr, List.length_cons, Nat.mul_add]; omega, fun j hj => ?_⟩
    unfold cutR at *
    rw [List.flatten_cons]
    cases j with
    | zero => rw [Nat.zero_mul, List.drop_zero, List.take_left' hr]; rfl
    | succ j =>
      rw [List.drop_append, List.drop_eq_nil_of_le (by rw [hr, Nat.add_mul]; omega), List.nil_append, hr, show (j + 1) * s - s = j * s by rw [Nat.add_mul]; omega]
      exact h2 j (by simp at hj; omega)
theorem cut_flat (s : Nat) : ∀ (K : Nat) (W : List UInt8), W.length = s * K → ((List.range K).map (cutR s W)).flatten = W
  | 0, W, h => by
    have : W = [] := List.eq_nil_of_length_eq_zero (by simpa using h)
    rw [this]; rfl
  | K + 1, W, h => by
    rw [List.range_succ_eq_map, List.map_cons, List.flatten_cons, List.map_map]
    have h1 : (W.drop s).length = s * K := by rw [List.length_drop, h, Nat.mul_add]; omega
    have := cut_flat s K (W.drop s) h1
    have e : (cutR s W ∘ Nat.succ) = cutR s (W.drop s) := by
      funext j
      show (W.drop ((j + 1) * s)).take s = ((W.drop s).drop (j * s)).take s
      rw [List.drop_drop]; congr 2; rw [Nat.add_mul]; omega
    rw [e, this]
    unfold cutR
    rw [Nat.zero_mul, List.drop_zero, List.take_append_drop]
theorem beN_head {m : Nat} (h : m ≤ 32768) : beN (head8 m) = m := by
  unfold beN head8
  simp only [List.foldl_cons, List.foldl_nil, UInt8.toNat_ofNat', UInt8.toNat_ofNat]
  omega
theorem head_of {l : List UInt8} (hl : l.length = 8) (h : beN l ≤ 32768) : l = head8 (beN l) ∧ l.take 5 = [0, 0, 0, 0, 0] ∧ n3 l = beN l := by
  match l, hl with
  | [a0, a1, a2, a3, a4, a5, a6, a7], _ =>
    unfold beN at *
    simp only [List.foldl_cons, List.foldl_nil] at *
    have b0 := a0.toNat_lt
    have b1 := a1.toNat_lt
    have b2 := a2.toNat_lt
    have b3 := a3.toNat_lt
    have b4 := a4.toNat_lt
    have b5 := a5.toNat_lt
    have b6 := a6.toNat_lt
    have b7 := a7.toNat_lt
    obtain ⟨m, hm⟩ : ∃ m, m = (((((((0 * 256 + a0.toNat) * 256 + a1.toNat) * 256 + a2.toNat) * 256 + a3.toNat) * 256 + a4.toNat) * 256 + a5.toNat) * 256 + a6.toNat) * 256 + a7.toNat := ⟨_, rfl⟩
    rw [← hm] at h ⊢
    have z0 : a0 = 0 := UInt8.toNat_inj.1 (by show _ = 0; omega)
    have z1 : a1 = 0 := UInt8.toNat_inj.1 (by show _ = 0; omega)
    have z2 : a2 = 0 := UInt8.toNat_inj.1 (by show _ = 0; omega)
    have z3 : a3 = 0 := UInt8.toNat_inj.1 (by show _ = 0; omega)
    have z4 : a4 = 0 := UInt8.toNat_inj.1 (by show _ = 0; omega)
    subst z0 z1 z2 z3 z4
    have z : (0 : UInt8).toNat = 0 := rfl
    rw [z] at hm
    have e5 : a5 = UInt8.ofNat (m / 65536) := UInt8.toNat_inj.1 (by rw [UInt8.toNat_ofNat']; omega)
    have e6 : a6 = UInt8.ofNat (m / 256) := UInt8.toNat_inj.1 (by rw [UInt8.toNat_ofNat']; omega)
    have e7 : a7 = UInt8.ofNat m := UInt8.toNat_inj.1 (by rw [UInt8.toNat_ofNat']; omega)
    refine ⟨by unfold head8; rw [← e5, ← e6, ← e7], rfl, ?_⟩
    show a5.toNat * 65536 + a6.toNat * 256 + a7.toNat = m
    omega
theorem head_zero {l : List UInt8} (hl : l.length = 8) (h : l.take 5 = [0, 0, 0, 0, 0]) : beN l = n3 l := by
  match l, hl with
  | [a0, a1, a2, a3, a4, a5, a6, a7], _ =>
    simp only [List.take_succ_cons, List.take_zero, List.cons.injEq, and_true] at h
    obtain ⟨rfl, rfl, rfl, rfl, rfl⟩ := h
    unfold beN n3
    simp only [List.foldl_cons, List.foldl_nil]
    have z : (0 : UInt8).toNat = 0 := rfl
    rw [z]
    show _ = a5.toNat * 65536 + a6.toNat * 256 + a7.toNat
    omega
theorem n3_take {W : List UInt8} (h : 8 ≤ W.length) : n3 (W.take 8) = n3 W := by
  have h := h
  have h := h
  unfold n3
  simp only [List.getD_eq_getElem?_getD, List.getElem?_take]
  rfl
/-- How many there are, is no more than how many such numbers there are. -/
theorem nodup_cnt (p : Nat → Bool) : ∀ (n : Nat) (l : List Nat), l.Nodup → (∀ x ∈ l, x < n ∧ p x = true) → l.length ≤ cntB p n
  | 0, l, _, h => by
    cases l with
    | nil => simp
    | cons a r => exact absurd (h a (by simp)).1 (by omega)
  | n + 1, l, hd, h => by
    rw [cntB_succ]
    by_cases hm : n ∈ l
    · have h1 := nodup_cnt p n (l.erase n) (hd.erase _) fun x hx => by
        have h2 := (hd.mem_erase_iff).1 hx
        have h3 := h x h2.2
        exact ⟨by have := h2.1; omega, h3.2⟩
      rw [List.length_erase_of_mem hm] at h1
      rw [(h n hm).2, if_pos rfl]; omega
    · have h1 := nodup_cnt p n l hd fun x hx => by
        have h3 := h x hx
        exact ⟨by have : x ≠ n := fun e => hm (e ▸ hx); omega, h3.2⟩
      omega
theorem rblob_len {W d : List UInt8} (h : rblobL W = some d) : d.length ≤ 32768 := by
  unfold rblobL at h
  split at h
  · rename_i hc
    cases h
    rw [List.length_take]; omega
  · cases h
theorem blob_whole {K s : Nat} {W d : List UInt8} (hK : 1 ≤ K) (hw : W.length = s * K) (h : blobL K s W = some d) : d.length ≤ 32768 ∧ W = wholeB K d ∧ sizeN K d.length = s := by
  unfold blobL at h
  split at h
  · rename_i hc
    obtain ⟨c1, c2, c3, c4⟩ := hc
    have ht8 : (W.take 8).length = 8 := by rw [List.length_take]; omega
    obtain ⟨g1, _⟩ := head_of ht8 c2
    generalize hn : beN (W.take 8) = n at *
    have hsm := sizeN_mul (m := n) hK
    rw [c3] at hsm
    have h := Option.some.inj h
    have hdl : d.length = n := by rw [← h, List.length_take, List.length_drop]; omega
    refine ⟨by omega, ?_, by rw [hdl]; exact c3⟩
    have hz : W.drop (8 + n) = List.replicate (s * K - (8 + n)) 0 := by
      rw [List.eq_replicate_iff, List.length_drop, hw]
      refine ⟨rfl, fun b hb => ?_⟩
      have := List.all_eq_true.1 c4 b hb
      exact eq_of_beq this
    unfold wholeB
    rw [hdl, c3, ← g1, ← hz, ← h, ← List.drop_drop, List.append_assoc, List.take_append_drop, List.take_append_drop]
  · cases h
section
variable {K N : Nat} {hv : List Int} {ps : List ByteArray} (hK : 1 ≤ K) (hKN : K ≤ N) (hN : N ≤ 12) (hg : goodH (N : Int) hv = true) (hl : hv.length = ps.length) (hk : K ≤ hv.length)
theorem pickR : LA.Rect (pick (matOf N K (codeAt K)) (hv.take K)) K ∨ ∃ x ∈ hv.take K, ¬ (0 ≤ x ∧ x < (N : Int)) := by
  by_cases h : ∃ x ∈ hv.take K, ¬ (0 ≤ x ∧ x < (N : Int))
  · exact .inr h
  · refine .inl fun r hr => ?_
    unfold pick at hr
    obtain ⟨x, hx, rfl⟩ := List.mem_map.1 hr
    have h0 : 0 ≤ x ∧ x < (N : Int) := Classical.byContradiction fun hn => h ⟨x, hx, hn⟩
    rw [matOf_rowD (by omega)]; simp
theorem pick_len (m : List (List UInt8)) (l : List Int) : (pick m l).length = l.length := by unfold pick; simp
theorem pick_atK {m : List (List UInt8)} {l : List Int} {i j : Nat} (hi : i < l.length) : LA.at_ (pick m l) i j = LA.at_ m l[i].toNat j := by
  unfold LA.at_ pick
  congr 1
  rw [List.getD_eq_getElem?_getD, List.getElem?_map, List.getElem?_eq_getElem hi]; rfl
theorem pick_rect {K N : Nat} {hv : List Int} (hg : goodH (N : Int) hv = true) : LA.Rect (pick (matOf N K (codeAt K)) (hv.take K)) K := by
  rcases pickR (K := K) (N := N) (hv := hv) with h | ⟨x, hx, h⟩
  · exact h
  · exact absurd ((goodH_iff.1 hg).1 x (List.mem_of_mem_take hx)) h
theorem first_len {K N : Nat} {hv : List Int} {ps : List ByteArray} (hk : K ≤ hv.length) : (firstM K N hv ps).length = K ∧ ∀ r ∈ firstM K N hv ps, r.length = sizeP ps := by
  have hln : (hv.take K).length = K := by rw [List.length_take]; omega
  unfold firstM sprM
  refine ⟨by rw [matOf_len]; unfold backM; rw [turnOf_length, pick_len, hln], matOf_row⟩
theorem data_flat {K : Nat} (hK : 1 ≤ K) (d : List UInt8) : (dataC K d).flatten = wholeB K d := by
  unfold dataC
  exact cut_flat _ K _ (whole_length hK)
theorem fits_rdec {K N : Nat} {hv : List Int} {ps : List ByteArray} {d : List UInt8} (h : rdecD K N hv ps = some d) : Fits K N hv ps d := by
  unfold rdecD at h
  split at h
  · split at h
    · rename_i d' hb
      split at h
      · rename_i hh
        cases h
        exact ⟨rblob_len hb, hh⟩
      · cases h
    · cases h
  · cases h
theorem fits_dec {K N : Nat} {hv : List Int} {ps : List ByteArray} (hK : 1 ≤ K) (hl : hv.length = ps.length) (hk : K ≤ hv.length) {d : List UInt8} (h : decD K N hv ps = some d) : Fits K N hv ps d := by
  unfold decD at h
  split at h
  · obtain ⟨l1, l2⟩ := first_len hk
    obtain ⟨f1, f2⟩ := flat_rows _ _ l2
    rw [l1] at f1 f2
    split at h
    · rename_i d' hb
      split at h
      · rename_i hh
        cases h
        obtain ⟨b1, b2, b3⟩ := blob_whole hK f1 hb
        refine ⟨b1, ?_⟩
        have e : firstM K N hv ps = dataC K d := by
          refine List.ext_getElem (by rw [l1, dataC_length]) fun j h1 h2 => ?_
          have e1 := f2 j (by omega)
          have e2 := dataC_row (K := K) (d := d) (j := j) (by omega)
          rw [b3, ← b2, e1, List.getD_eq_getElem?_getD, List.getD_eq_getElem?_getD, List.getElem?_eq_getElem h1, List.getElem?_eq_getElem h2] at e2
          exact e2.symm
        rw [e, ← b3] at hh
        exact hh
      · cases h
    · cases h
  · cases h
include hKN hN hg hk
theorem pick_full : (LA.dn (pick (matOf N K (codeAt K)) (hv.take K)) K).2 = K := by
  have hln : (hv.take K).length = K := by rw [List.length_take]; omega
  refine (full_ap (pick_rect hg) (by rw [pick_len, hln])).2 fun x hx => ?_
  have hgt := goodH_iff.1 (goodH_take hg K)
  refine mds hKN (by omega) (fun i => decide ((i : Int) ∈ hv.take K)) ?_ x fun i hi hp => ?_
  · have := nodup_cnt (fun i => decide ((i : Int) ∈ hv.take K)) N ((hv.take K).map Int.toNat) ?_ fun y hy => ?_
    · rw [List.length_map, hln] at this; exact this
    · refine List.Pairwise.map _ ?_ (List.Pairwise.imp_of_mem (S := fun a b : Int => a ≠ b ∧ 0 ≤ a ∧ 0 ≤ b) (fun {a b} ha hb hne => ⟨hne, (hgt.1 a ha).1, (hgt.1 b hb).1⟩) hgt.2)
      rintro a b ⟨hne, ha, hb⟩
      omega
    · obtain ⟨z, hz, rfl⟩ := List.mem_map.1 hy
      have := hgt.1 z hz
      exact ⟨by omega, decide_eq_true (by rw [Int.toNat_of_nonneg this.1]; exact hz)⟩
  · obtain ⟨q, hq, e⟩ := List.mem_iff_getElem.1 (of_decide_eq_true hp)
    rw [← hx q (by omega)]
    unfold ap
    refine LA.sum_congr fun j hj => ?_
    rw [pick_atK hq, e, Int.toNat_natCast, matOf_at hi hj]
include hK hl
/-- Payloads of a blob: the first ones are its data. -/
theorem first_data {d : List UInt8} (hf : ∀ i (h : i < hv.length), strB ((encM K N d).getD hv[i].toNat []) = ps[i]'(by omega)) : firstM K N hv ps = dataC K d ∧ sizeP ps = sizeN K d.length ∧ evenP ps = true := by
  have hln : (hv.take K).length = K := by rw [List.length_take]; omega
  have hgt := goodH_iff.1 hg
  have hlt : ∀ i (h : i < hv.length), hv[i].toNat < N := fun i h => by have := hgt.1 _ (List.getElem_mem h); omega
  have hsz : ∀ i (h : i < ps.length), ps[i].size = sizeN K d.length := fun i h => by
    rw [← hf i (by omega), strB_size, encM_row (hlt i (by omega))]; simp
  have hs : sizeP ps = sizeN K d.length := by
    unfold sizeP
    cases ps with
    | nil => rw [List.length_nil] at hl; omega
    | cons p q => exact hsz 0 (by simp)
  refine ⟨?_, hs, ?_⟩
  · obtain ⟨l1, l2⟩ := first_len hk
    refine mat_ext l1 (dataC_length K d) l2 (fun r hr => ?_) fun i hi b hb => ?_
    · unfold dataC at hr
      obtain ⟨j, hj, rfl⟩ := List.mem_map.1 hr
      rw [hs]
      exact cutR_length (K := K) (whole_length hK) (List.mem_range.1 hj)
    · rw [hs] at hb
      obtain ⟨t1, t2⟩ := turn_full (pick_rect hg) (by rw [pick_len, hln]) (pick_full hKN hN hg hk)
      have h2 := (t2 (fun j => LA.at_ (dataC K d) j b) (fun q => LA.at_ (bytesP (ps.take K)) q b)).1 (fun q hq => ?_) i hi
      · rw [h2]
        unfold firstM sprM
        rw [hs, matOf_at (by unfold backM; rw [turnOf_length, pick_len, hln]; exact hi) hb]
        have hbl : (bytesP (ps.take K)).length = K := by unfold bytesP; rw [List.length_map, List.length_take]; omega
        unfold sprAt ap
        rw [hbl]; rfl
      · have hqv : q < hv.length := by omega
        have e1 : LA.at_ (bytesP (ps.take K)) q b = ((encM K N d).getD hv[q].toNat []).getD b 0 := by
          unfold LA.at_ bytesP
          congr 1
          rw [List.getD_eq_getElem?_getD, List.getElem?_map, List.getElem?_take, if_pos hq, List.getElem?_eq_getElem (by omega)]
          simp only [Option.map_some, Option.getD_some]
          rw [← hf q hqv]; rfl
        rw [e1, encM_row (hlt q hqv)]
        simp only [List.getD_eq_getElem?_getD, List.getElem?_map, List.getElem?_range hb, Option.map_some, Option.getD_some]
        rw [spr_code (hlt q hqv)]
        unfold ap
        refine LA.sum_congr fun j hj => ?_
        rw [pick_atK (by omega), matOf_at (by rw [List.getElem_take]; exact hlt q hqv) hj, List.getElem_take]
  · unfold evenP
    rw [List.all_eq_true]
    intro p hp
    obtain ⟨i, hi, rfl⟩ := List.mem_iff_getElem.1 hp
    rw [hs, hsz i hi]; simp
theorem dec_fits {d : List UInt8} (hf : Fits K N hv ps d) : decD K N hv ps = some d ∧ rdecD K N hv ps = some d := by
  obtain ⟨hd, hh⟩ := hf
  obtain ⟨e1, e2, e3⟩ := first_data hK hKN hN hg hl hk ((haveB_iff hl).1 hh)
  have hsp := sizeN_pos (m := d.length) hK
  have hsm := sizeN_mul (m := d.length) hK
  have hfl := data_flat hK d
  have hwl : (wholeB K d).length = sizeN K d.length * K := whole_length hK
  have ht8 : (wholeB K d).take 8 = head8 d.length := by unfold wholeB; rw [List.append_assoc, List.take_left' (head8_length _)]
  have hd8 : (wholeB K d).drop 8 = d ++ List.replicate (sizeN K d.length * K - (8 + d.length)) 0 := by unfold wholeB; rw [List.append_assoc, List.drop_left' (head8_length _)]
  have hb := beN_head hd
  have hn3 : n3 (wholeB K d) = d.length := by
    rw [← n3_take (by omega), ht8]
    obtain ⟨_, _, h3⟩ := head_of (head8_length d.length) (by rw [hb]; exact hd)
    rw [h3, hb]
  constructor
  · unfold decD
    rw [e3, decide_eq_true (by omega), Bool.and_self, if_pos rfl, e1, hfl]
    unfold blobL
    have ha : (((wholeB K d).drop (8 + d.length)).all fun x => x == 0) = true := by
      rw [← List.drop_drop, hd8, List.drop_left' rfl]
      simp
    rw [ht8, hb, hd8, if_pos ⟨by omega, hd, e2.symm, ha⟩, List.take_left' rfl]
    simp only []
    rw [if_pos]
    rw [e2]; exact hh
  · unfold rdecD
    rw [e3, if_pos rfl, e1, hfl]
    unfold rblobL
    have ha : (wholeB K d).take 5 = [0, 0, 0, 0, 0] := by
      have := congrArg (List.take 5) ht8
      rw [List.take_take] at this
      exact this
    rw [hn3, if_pos ⟨by omega, ha, hd, by omega⟩, hd8, List.take_left' rfl]
    simp only []
    rw [if_pos hh]
theorem dec_iff {d : List UInt8} : decD K N hv ps = some d ↔ Fits K N hv ps d := ⟨fits_dec hK hl hk, fun h => (dec_fits hK hKN hN hg hl hk h).1⟩
theorem dec_same : decD K N hv ps = rdecD K N hv ps := by
  cases h : rdecD K N hv ps with
  | some d => exact (dec_iff hK hKN hN hg hl hk).2 (fits_rdec h)
  | none =>
    cases h2 : decD K N hv ps with
    | none => rfl
    | some d => rw [(dec_fits hK hKN hN hg hl hk (fits_dec hK hl hk h2)).2] at h; cases h
end
end Go.Proofs.YtllfhaocdknejaaDoor
