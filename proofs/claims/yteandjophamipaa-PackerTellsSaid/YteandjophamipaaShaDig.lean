/- Numbers in digits of 16 bits: their product, how they compare. No program in sight. -/
import Derived.Test.YteandjophamipaaShaP
namespace Go.Proofs.Yteandjophamipaa.SH
def val : List Nat → Nat
  | [] => 0
  | d :: l => d + 65536 * val l
def Digs (l : List Nat) : Prop := ∀ i, l.getD i 0 < 65536
theorem val_append (l m : List Nat) : val (l ++ m) = val l + 65536 ^ l.length * val m := by
  induction l with
  | nil => simp [val]
  | cons d l ih =>
    show d + 65536 * val (l ++ m) = d + 65536 * val l + 65536 ^ (l.length + 1) * val m
    rw [ih, Nat.pow_succ, Nat.mul_add, ← Nat.mul_assoc, Nat.mul_comm 65536 (65536 ^ l.length)]; omega
theorem val_split {l : List Nat} {i : Nat} (h : i < l.length) : val l = val (l.take i) + 65536 ^ i * (l.getD i 0 + 65536 * val (l.drop (i + 1))) := by
  have e : l = l.take i ++ (l.getD i 0 :: l.drop (i + 1)) := by
    rw [List.getD_eq_getElem?_getD, List.getElem?_eq_getElem h]
    show l = l.take i ++ (l[i] :: l.drop (i + 1))
    rw [← List.drop_eq_getElem_cons h, List.take_append_drop]
  conv => lhs; rw [e]
  rw [val_append, List.length_take, Nat.min_eq_left (by omega)]
  rfl
theorem val_set {l : List Nat} {i : Nat} (h : i < l.length) (x : Nat) : val (l.set i x) + l.getD i 0 * 65536 ^ i = val l + x * 65536 ^ i := by
  have h' : i < (l.set i x).length := by rw [List.length_set]; exact h
  rw [val_split h', val_split h, List.take_set_of_le (Nat.le_refl _), List.drop_set_of_lt (by omega)]
  have e : (l.set i x).getD i 0 = x := by rw [List.getD_eq_getElem?_getD, List.getElem?_set_self h]; rfl
  rw [e, Nat.mul_add, Nat.mul_add, Nat.mul_comm x, Nat.mul_comm (l.getD i 0)]; omega
theorem val_take_lt {l : List Nat} (h : Digs l) (i : Nat) (hi : i ≤ l.length) : val (l.take i) < 65536 ^ i := by
  induction i with
  | zero => simp [val]
  | succ i ih =>
    have h1 := ih (by omega)
    have e : l.take (i + 1) = l.take i ++ [l.getD i 0] := by
      rw [List.getD_eq_getElem?_getD, List.getElem?_eq_getElem (by omega)]
      exact (List.take_append_getElem (by omega)).symm
    rw [e, val_append, List.length_take, Nat.min_eq_left (by omega)]
    show _ + _ * (l.getD i 0 + 65536 * 0) < _
    have h2 := h i
    rw [Nat.pow_succ]
    have : 65536 ^ i * (l.getD i 0 + 65536 * 0) ≤ 65536 ^ i * 65535 := Nat.mul_le_mul_left _ (by omega)
    omega
/-- Two numbers that are alike above a digit, and part there. -/
theorem val_parts {a b : List Nat} (ha : Digs a) (hb : Digs b) {i : Nat} (hi : i < a.length) (hi' : i < b.length) (hd : a.drop (i + 1) = b.drop (i + 1)) (hne : a.getD i 0 ≠ b.getD i 0) :
    decide (val b < val a) = decide (b.getD i 0 < a.getD i 0) := by
  have h1 := val_take_lt ha i (by omega)
  have h2 := val_take_lt hb i (by omega)
  have e1 := val_split hi
  have e2 := val_split hi'
  rw [hd, Nat.mul_add] at e1
  rw [Nat.mul_add] at e2
  generalize 65536 ^ i * (65536 * val (b.drop (i + 1))) = T at *
  by_cases h : b.getD i 0 < a.getD i 0
  · have h3 : 65536 ^ i * (b.getD i 0 + 1) ≤ 65536 ^ i * a.getD i 0 := Nat.mul_le_mul_left _ h
    rw [Nat.mul_add, Nat.mul_one] at h3
    rw [decide_eq_true h]; exact decide_eq_true (by omega)
  · have h3 : 65536 ^ i * (a.getD i 0 + 1) ≤ 65536 ^ i * b.getD i 0 := Nat.mul_le_mul_left _ (by omega)
    rw [Nat.mul_add, Nat.mul_one] at h3
    rw [decide_eq_false h]; exact decide_eq_false (by omega)

def tIn (x : Nat) (b : List Nat) (i : Nat) (out : List Nat) : Nat → List Nat × Nat
  | 0 => (out, 0)
  | k + 1 => ((tIn x b i out k).1.set (i + k) (((tIn x b i out k).1.getD (i + k) 0 + x * b.getD k 0 + (tIn x b i out k).2) % 65536), ((tIn x b i out k).1.getD (i + k) 0 + x * b.getD k 0 + (tIn x b i out k).2) / 65536)
def tOut (a b : List Nat) : Nat → List Nat
  | 0 => List.replicate (a.length + b.length) 0
  | i + 1 => (tIn (a.getD i 0) b i (tOut a b i) b.length).1.set (i + b.length) ((tIn (a.getD i 0) b i (tOut a b i) b.length).1.getD (i + b.length) 0 + (tIn (a.getD i 0) b i (tOut a b i) b.length).2)
def timesL (a b : List Nat) : List Nat := tOut a b a.length
theorem getD_set (l : List Nat) (i j x : Nat) : (l.set i x).getD j 0 = if i = j ∧ i < l.length then x else l.getD j 0 := by
  rw [List.getD_eq_getElem?_getD, List.getElem?_set]
  by_cases e : i = j
  · subst e
    by_cases h : i < l.length
    · rw [if_pos rfl, if_pos h, if_pos ⟨rfl, h⟩]; rfl
    · rw [if_pos rfl, if_neg h, if_neg (fun x => h x.2), List.getD_eq_getElem?_getD, List.getElem?_eq_none (by omega)]
  · rw [if_neg e, if_neg (fun x => e x.1), List.getD_eq_getElem?_getD]
theorem digs_set {l : List Nat} (h : Digs l) (i : Nat) {x : Nat} (hx : x < 65536) : Digs (l.set i x) := fun j => by
  rw [getD_set]; split
  · exact hx
  · exact h j
theorem vbound {o x y c : Nat} (h1 : o < 65536) (h2 : x < 65536) (h3 : y < 65536) (h4 : c < 65536) : o + x * y + c < 4294967296 ∧ (o + x * y + c) / 65536 < 65536 := by
  have : x * y ≤ 65535 * 65535 := Nat.mul_le_mul (by omega) (by omega)
  omega
theorem tIn_ok {x : Nat} {b out : List Nat} {i : Nat} (hx : x < 65536) (hb : Digs b) (ho : Digs out) (k : Nat) : Digs (tIn x b i out k).1 ∧ (tIn x b i out k).2 < 65536 ∧ (tIn x b i out k).1.length = out.length := by
  induction k with
  | zero => exact ⟨ho, (by show 0 < 65536; decide), rfl⟩
  | succ k ih =>
    obtain ⟨h1, h2, h3⟩ := ih
    have hv := vbound (h1 (i + k)) hx (hb k) h2
    refine ⟨digs_set h1 _ (Nat.mod_lt _ (by decide)), hv.2, ?_⟩
    unfold tIn; rw [List.length_set, h3]
theorem tIn_out {x : Nat} {b out : List Nat} {i : Nat} (k j : Nat) (hj : i + k ≤ j) : (tIn x b i out k).1.getD j 0 = out.getD j 0 := by
  induction k with
  | zero => rfl
  | succ k ih => unfold tIn; rw [getD_set, if_neg (by omega), ih (by omega)]
theorem take_getD (b : List Nat) (k : Nat) (h : k < b.length) : val (b.take (k + 1)) = val (b.take k) + 65536 ^ k * b.getD k 0 := by
  have e : b.take (k + 1) = b.take k ++ [b.getD k 0] := by
    rw [List.getD_eq_getElem?_getD, List.getElem?_eq_getElem h]
    exact (List.take_append_getElem h).symm
  rw [e, val_append, List.length_take, Nat.min_eq_left (by omega)]; rfl
theorem tIn_val {x : Nat} {b out : List Nat} {i : Nat} (k : Nat) (hk : k ≤ b.length) (hl : i + b.length ≤ out.length) (hlen : ∀ k, (tIn x b i out k).1.length = out.length) :
    val (tIn x b i out k).1 + (tIn x b i out k).2 * 65536 ^ (i + k) = val out + x * val (b.take k) * 65536 ^ i := by
  induction k with
  | zero => simp [tIn, val]
  | succ k ih =>
    have h0 := ih (by omega)
    have h1 := val_set (l := (tIn x b i out k).1) (i := i + k) (by rw [hlen]; omega) (((tIn x b i out k).1.getD (i + k) 0 + x * b.getD k 0 + (tIn x b i out k).2) % 65536)
    unfold tIn
    rw [take_getD b k (by omega)]
    generalize (tIn x b i out k).1 = o at *
    generalize (tIn x b i out k).2 = c at *
    generalize hv : o.getD (i + k) 0 + x * b.getD k 0 + c = v at *
    have hp : 65536 ^ (i + (k + 1)) = 65536 * 65536 ^ (i + k) := by rw [← Nat.add_assoc, Nat.pow_succ, Nat.mul_comm]
    have hq : 65536 ^ (i + k) = 65536 ^ k * 65536 ^ i := by rw [Nat.add_comm, Nat.pow_add]
    have hd := Nat.div_add_mod v 65536
    have e1 : v / 65536 * 65536 ^ (i + (k + 1)) + v % 65536 * 65536 ^ (i + k) = v * 65536 ^ (i + k) := by
      rw [hp, ← Nat.mul_assoc, ← Nat.add_mul, Nat.mul_comm (v / 65536), hd]
    have e2 : v * 65536 ^ (i + k) = o.getD (i + k) 0 * 65536 ^ (i + k) + x * b.getD k 0 * 65536 ^ (i + k) + c * 65536 ^ (i + k) := by rw [← hv, Nat.add_mul, Nat.add_mul]
    have e3 : x * (val (b.take k) + 65536 ^ k * b.getD k 0) * 65536 ^ i = x * val (b.take k) * 65536 ^ i + x * b.getD k 0 * 65536 ^ (i + k) := by
      rw [hq, Nat.mul_add, Nat.add_mul]
      congr 1
      simp only [Nat.mul_assoc, Nat.mul_comm, Nat.mul_left_comm]
    rw [e3]
    dsimp only
    omega
theorem tOut_ok {a b : List Nat} (ha : Digs a) (hb : Digs b) (i : Nat) (hi : i ≤ a.length) : Digs (tOut a b i) ∧ (tOut a b i).length = a.length + b.length ∧ ∀ j, i + b.length ≤ j → (tOut a b i).getD j 0 = 0 := by
  induction i with
  | zero =>
    have h0 : ∀ j, (List.replicate (a.length + b.length) 0).getD j 0 = 0 := fun j => by
      rw [List.getD_eq_getElem?_getD, List.getElem?_replicate]; split <;> rfl
    exact ⟨fun j => by show (List.replicate _ 0).getD j 0 < _; rw [h0]; decide, by unfold tOut; simp, fun j _ => h0 j⟩
  | succ i ih =>
    obtain ⟨h1, h2, h3⟩ := ih (by omega)
    obtain ⟨g1, g2, g3⟩ := tIn_ok (i := i) (ha i) hb h1 b.length
    have hz : (tIn (a.getD i 0) b i (tOut a b i) b.length).1.getD (i + b.length) 0 = 0 := by rw [tIn_out _ _ (Nat.le_refl _)]; exact h3 _ (Nat.le_refl _)
    refine ⟨?_, by unfold tOut; rw [List.length_set, g3, h2], fun j hj => ?_⟩
    · unfold tOut; exact digs_set g1 _ (by rw [hz]; omega)
    · unfold tOut
      rw [getD_set, if_neg (by omega), tIn_out _ _ (by omega)]; exact h3 _ (by omega)
theorem tOut_val {a b : List Nat} (ha : Digs a) (hb : Digs b) (i : Nat) (hi : i ≤ a.length) : val (tOut a b i) = val (a.take i) * val b := by
  induction i with
  | zero =>
    have : ∀ n, val (List.replicate n 0) = 0 := fun n => by induction n with
      | zero => rfl
      | succ n ih => rw [List.replicate_succ]; show 0 + 65536 * val _ = 0; rw [ih]
    simp [tOut, this, val]
  | succ i ih =>
    obtain ⟨h1, h2, h3⟩ := tOut_ok ha hb i (by omega)
    have hlen : ∀ k, (tIn (a.getD i 0) b i (tOut a b i) k).1.length = (tOut a b i).length := fun k => (tIn_ok (i := i) (ha i) hb h1 k).2.2
    have hv := tIn_val (x := a.getD i 0) (b := b) (out := tOut a b i) (i := i) b.length (Nat.le_refl _) (by omega) hlen
    have hz : (tIn (a.getD i 0) b i (tOut a b i) b.length).1.getD (i + b.length) 0 = 0 := by rw [tIn_out _ _ (Nat.le_refl _)]; exact h3 _ (Nat.le_refl _)
    have hs := val_set (l := (tIn (a.getD i 0) b i (tOut a b i) b.length).1) (i := i + b.length) (by rw [hlen]; omega) ((tIn (a.getD i 0) b i (tOut a b i) b.length).1.getD (i + b.length) 0 + (tIn (a.getD i 0) b i (tOut a b i) b.length).2)
    unfold tOut
    rw [hz] at hs ⊢
    rw [List.take_length, ih (by omega)] at hv
    rw [take_getD a i (by omega), Nat.add_mul]
    rw [Nat.zero_mul, Nat.zero_add] at hs
    rw [Nat.add_zero] at hs
    rw [Nat.zero_add]
    have e : a.getD i 0 * val b * 65536 ^ i = 65536 ^ i * a.getD i 0 * val b := by rw [Nat.mul_comm (65536 ^ i) (a.getD i 0), Nat.mul_assoc, Nat.mul_assoc, Nat.mul_comm (val b)]
    rw [← e]; omega
theorem times_val {a b : List Nat} (ha : Digs a) (hb : Digs b) : val (timesL a b) = val a * val b := by
  unfold timesL; rw [tOut_val ha hb _ (Nat.le_refl _), List.take_length]
theorem times_ok {a b : List Nat} (ha : Digs a) (hb : Digs b) : Digs (timesL a b) ∧ (timesL a b).length = a.length + b.length :=
  let h := tOut_ok ha hb a.length (Nat.le_refl _); ⟨h.1, h.2.1⟩
def digits (n : Nat) : List Nat := [n % 65536, n / 65536 % 65536, n / 65536 / 65536 % 65536, n / 65536 / 65536 / 65536]
theorem digits_val (n : Nat) : val (digits n) = n := by
  show n % 65536 + 65536 * (n / 65536 % 65536 + 65536 * (n / 65536 / 65536 % 65536 + 65536 * (n / 65536 / 65536 / 65536 + 65536 * 0))) = n
  omega
theorem digits_ok {n : Nat} (h : n < 18446744073709551616) : Digs (digits n) := fun i => by
  match i with
  | 0 => exact Nat.mod_lt _ (by decide)
  | 1 => exact Nat.mod_lt _ (by decide)
  | 2 => exact Nat.mod_lt _ (by decide)
  | 3 => show n / 65536 / 65536 / 65536 < 65536; omega
  | i + 4 => show 0 < 65536; decide
/-- What a number in digits is held against: n, with so many digits 0 ahead, and behind. -/
def wantL (n z la : Nat) : List Nat := List.replicate z 0 ++ digits n ++ List.replicate (la - z - 4) 0
theorem rep_val (n : Nat) : val (List.replicate n 0) = 0 := by
  induction n with
  | zero => rfl
  | succ n ih => rw [List.replicate_succ]; show 0 + 65536 * val _ = 0; rw [ih]
theorem want_val (n z la : Nat) : val (wantL n z la) = n * 65536 ^ z := by
  unfold wantL
  rw [val_append, val_append, rep_val, rep_val, digits_val, List.length_replicate]; simp [Nat.mul_comm]
theorem want_length {n z la : Nat} (h : z + 4 ≤ la) : (wantL n z la).length = la := by unfold wantL digits; simp; omega
theorem want_at (n z la i : Nat) : (wantL n z la).getD i 0 = if z ≤ i ∧ i < z + 4 then (digits n).getD (i - z) 0 else 0 := by
  unfold wantL
  have hl : (digits n).length = 4 := rfl
  rw [List.getD_eq_getElem?_getD]
  by_cases h1 : i < z
  · rw [if_neg (by omega), List.append_assoc, List.getElem?_append_left (by simpa using h1), List.getElem?_replicate, if_pos h1]; rfl
  · by_cases h2 : i < z + 4
    · rw [if_pos ⟨by omega, h2⟩, List.getElem?_append_left (by simp [hl]; omega), List.getElem?_append_right (by simp; omega), List.length_replicate, List.getD_eq_getElem?_getD]
    · rw [if_neg (by omega), List.getElem?_append_right (by simp [hl]; omega), List.getElem?_replicate]; split <;> rfl
theorem want_ok {n : Nat} (h : n < 18446744073709551616) (z la : Nat) : Digs (wantL n z la) := fun i => by
  rw [want_at]; split
  · exact digits_ok h _
  · decide
end Go.Proofs.Yteandjophamipaa.SH
