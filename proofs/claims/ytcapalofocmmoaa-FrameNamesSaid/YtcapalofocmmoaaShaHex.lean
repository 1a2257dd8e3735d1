/- Hexes of bytes, as plain functions. No program in sight. -/
import Derived.Test.YtcapalofocmmoaaShaMath
namespace Go.Proofs.Ytcapalofocmmoaa.SH
def hexd (n : Nat) : UInt8 := if n < 10 then UInt8.ofNat (48 + n) else UInt8.ofNat (87 + n)
def hex2 (c : UInt8) : List UInt8 := [hexd (c.toNat / 16), hexd (c.toNat % 16)]
def hexB (l : List UInt8) : List UInt8 := l.flatMap hex2
/-- A digit's number; 16: it is none. -/
def numH (c : UInt8) : Nat := if 48 ≤ c.toNat ∧ c.toNat ≤ 57 then c.toNat - 48 else if 97 ≤ c.toNat ∧ c.toNat ≤ 102 then c.toNat - 87 else 16
def chr (l : List UInt8) (i : Nat) : UInt8 := l.getD i 0
/-- The bytes of the first k pairs of digits. -/
def unh (l : List UInt8) : Nat → Option (List UInt8)
  | 0 => some []
  | k + 1 => match unh l k with
    | none => none
    | some r => if numH (chr l (2 * k)) < 16 ∧ numH (chr l (2 * k + 1)) < 16 then some (r ++ [UInt8.ofNat (numH (chr l (2 * k)) * 16 + numH (chr l (2 * k + 1)))]) else none
def unhexB (l : List UInt8) : Option (List UInt8) := if l.length % 2 = 1 then none else unh l (l.length / 2)
theorem numH_le (c : UInt8) : numH c ≤ 16 := by
  have := UInt8.toNat_lt c
  unfold numH; split
  · omega
  · split <;> omega
theorem numH_hexd {n : Nat} (h : n < 16) : numH (hexd n) = n := by
  have : ∀ m < 16, numH (hexd m) = m := by decide
  exact this n h
theorem hexd_numH {c : UInt8} (h : numH c < 16) : hexd (numH c) = c := by
  have : ∀ m < 256, numH (UInt8.ofNat m) < 16 → hexd (numH (UInt8.ofNat m)) = UInt8.ofNat m := by decide +kernel
  have h2 := this c.toNat (UInt8.toNat_lt c)
  rw [UInt8.ofNat_toNat] at h2
  exact h2 h
theorem hexB_snoc (l : List UInt8) (c : UInt8) : hexB (l ++ [c]) = hexB l ++ hex2 c := by unfold hexB; simp
theorem hexB_append (l m : List UInt8) : hexB (l ++ m) = hexB l ++ hexB m := by unfold hexB; simp
theorem hexB_length (l : List UInt8) : (hexB l).length = 2 * l.length := by
  unfold hexB
  rw [List.length_flatMap]
  have e : (fun a => (hex2 a).length) = fun _ => 2 := rfl
  rw [e]
  induction l with
  | nil => rfl
  | cons a l ih => rw [List.map_cons, List.sum_cons, ih, List.length_cons]; omega
theorem unh_length {l : List UInt8} {k : Nat} {r : List UInt8} (h : unh l k = some r) : r.length = k := by
  induction k generalizing r with
  | zero => injection h with h; subst h; rfl
  | succ k ih =>
    unfold unh at h
    split at h
    · cases h
    · rename_i r0 h0
      split at h
      · injection h with h; subst h; rw [List.length_append, ih h0]; rfl
      · cases h
theorem unh_more {l : List UInt8} {k n : Nat} (h : unh l k = none) (hn : k ≤ n) : unh l n = none := by
  induction n with
  | zero => obtain rfl : k = 0 := by omega
            exact h
  | succ n ih =>
    rcases Nat.lt_or_ge n k with h1 | h1
    · obtain rfl : k = n + 1 := by omega
      exact h
    · unfold unh; rw [ih h1]
theorem unh_succ {l : List UInt8} {k : Nat} {r : List UInt8} (h : unh l k = some r) : unh l (k + 1) = if numH (chr l (2 * k)) < 16 ∧ numH (chr l (2 * k + 1)) < 16 then some (r ++ [UInt8.ofNat (numH (chr l (2 * k)) * 16 + numH (chr l (2 * k + 1)))]) else none := by
  show (match unh l k with | none => none | some r => _) = _
  rw [h]
/-- The first pairs do not hang on what stands behind. -/
theorem unh_front {c d : List UInt8} {k : Nat} (h : 2 * k ≤ c.length) : unh (c ++ d) k = unh c k := by
  induction k with
  | zero => rfl
  | succ k ih =>
    have e1 : chr (c ++ d) (2 * k) = chr c (2 * k) := by unfold chr; rw [List.getD_eq_getElem?_getD, List.getElem?_append_left (by omega), List.getD_eq_getElem?_getD]
    have e2 : chr (c ++ d) (2 * k + 1) = chr c (2 * k + 1) := by unfold chr; rw [List.getD_eq_getElem?_getD, List.getElem?_append_left (by omega), List.getD_eq_getElem?_getD]
    unfold unh
    rw [ih (by omega), e1, e2]
theorem unh_append {c d : List UInt8} {p : Nat} (hc : c.length = 2 * p) (q : Nat) : unh (c ++ d) (p + q) = match unh c p, unh d q with | some x, some y => some (x ++ y) | _, _ => none := by
  induction q with
  | zero =>
    rw [Nat.add_zero, unh_front (by omega)]
    show _ = match unh c p, some ([] : List UInt8) with | some x, some y => some (x ++ y) | _, _ => none
    cases unh c p with
    | none => rfl
    | some x => simp
  | succ q ih =>
    have e1 : chr (c ++ d) (2 * (p + q)) = chr d (2 * q) := by unfold chr; rw [List.getD_eq_getElem?_getD, List.getElem?_append_right (by omega), List.getD_eq_getElem?_getD]; congr 2; omega
    have e2 : chr (c ++ d) (2 * (p + q) + 1) = chr d (2 * q + 1) := by unfold chr; rw [List.getD_eq_getElem?_getD, List.getElem?_append_right (by omega), List.getD_eq_getElem?_getD]; congr 2; omega
    rw [← Nat.add_assoc]
    cases hcp : unh c p with
    | none =>
      have : unh (c ++ d) (p + q + 1) = none := unh_more (k := p) (by rw [unh_front (by omega)]; exact hcp) (by omega)
      rw [this]
    | some x =>
      rw [hcp] at ih
      cases hdq : unh d q with
      | none =>
        rw [hdq] at ih
        have h1 : unh (c ++ d) (p + q + 1) = none := unh_more (k := p + q) (by rw [ih]) (by omega)
        have h2 : unh d (q + 1) = none := unh_more (k := q) hdq (by omega)
        rw [h1, h2]
      | some y =>
        rw [hdq] at ih
        rw [unh_succ (r := x ++ y) (by rw [ih]), unh_succ hdq, e1, e2]
        split <;> simp
theorem unhexB_append {c d : List UInt8} (hc : c.length % 2 = 0) (hd : d.length % 2 = 0) : unhexB (c ++ d) = match unhexB c, unhexB d with | some x, some y => some (x ++ y) | _, _ => none := by
  unfold unhexB
  rw [if_neg (by rw [List.length_append]; omega), if_neg (by omega), if_neg (by omega), List.length_append, show (c.length + d.length) / 2 = c.length / 2 + d.length / 2 from by omega]
  exact unh_append (by omega) _
theorem chr_hex (l : List UInt8) {k : Nat} (h : k < l.length) : chr (hexB l) (2 * k) = hexd (l[k].toNat / 16) ∧ chr (hexB l) (2 * k + 1) = hexd (l[k].toNat % 16) := by
  induction l generalizing k with
  | nil => simp at h
  | cons c l ih =>
    have e : hexB (c :: l) = hexd (c.toNat / 16) :: hexd (c.toNat % 16) :: hexB l := rfl
    rw [e]
    cases k with
    | zero => exact ⟨rfl, rfl⟩
    | succ k =>
      have := ih (k := k) (by simpa using h)
      rw [show 2 * (k + 1) = 2 * k + 1 + 1 from by omega]
      exact this
theorem unh_hex (l : List UInt8) {k : Nat} (h : k ≤ l.length) : unh (hexB l) k = some (l.take k) := by
  induction k with
  | zero => rfl
  | succ k ih =>
    obtain ⟨h1, h2⟩ := chr_hex l (k := k) (by omega)
    rw [unh_succ (ih (by omega)), h1, h2]
    have hb := UInt8.toNat_lt l[k]
    rw [numH_hexd (by omega), numH_hexd (by omega), if_pos (by omega), show l[k].toNat / 16 * 16 + l[k].toNat % 16 = l[k].toNat from by omega, UInt8.ofNat_toNat, List.take_append_getElem (by omega)]
/-- Unhex of Hex are the bytes. -/
theorem unhex_hex (l : List UInt8) : unhexB (hexB l) = some l := by
  unfold unhexB
  rw [hexB_length, if_neg (by omega), show 2 * l.length / 2 = l.length from by omega, unh_hex l (Nat.le_refl _), List.take_length]
theorem hex_unh {l : List UInt8} {k : Nat} {r : List UInt8} (hk : 2 * k ≤ l.length) (h : unh l k = some r) : hexB r = l.take (2 * k) := by
  induction k generalizing r with
  | zero => injection h with h; subst h; rfl
  | succ k ih =>
    cases h0 : unh l k with
    | none => rw [unh_more h0 (by omega)] at h; cases h
    | some r0 =>
      rw [unh_succ h0] at h
      split at h
      · rename_i hn
        injection h with h
        subst h
        have g1 : chr l (2 * k) = l[2 * k] := by unfold chr; rw [List.getD_eq_getElem?_getD, List.getElem?_eq_getElem (by omega)]; rfl
        have g2 : chr l (2 * k + 1) = l[2 * k + 1] := by unfold chr; rw [List.getD_eq_getElem?_getD, List.getElem?_eq_getElem (by omega)]; rfl
        rw [hexB_snoc, ih (by omega) h0]
        unfold hex2
        have e : (UInt8.ofNat (numH (chr l (2 * k)) * 16 + numH (chr l (2 * k + 1)))).toNat = numH (chr l (2 * k)) * 16 + numH (chr l (2 * k + 1)) := by
          rw [UInt8.toNat_ofNat']; omega
        rw [e, show (numH (chr l (2 * k)) * 16 + numH (chr l (2 * k + 1))) / 16 = numH (chr l (2 * k)) from by omega, show (numH (chr l (2 * k)) * 16 + numH (chr l (2 * k + 1))) % 16 = numH (chr l (2 * k + 1)) from by omega,
          hexd_numH hn.1, hexd_numH hn.2, g1, g2]
        have t1 := List.take_append_getElem (show 2 * k + 1 < l.length by omega)
        have t2 := List.take_append_getElem (show 2 * k < l.length by omega)
        rw [show 2 * (k + 1) = 2 * k + 1 + 1 from by omega, ← t1, ← t2, List.append_assoc]
        rfl
      · cases h
/-- Hex of Unhex is the hex. -/
theorem hex_unhex {l r : List UInt8} (h : unhexB l = some r) : hexB r = l := by
  unfold unhexB at h
  split at h
  · cases h
  · have := hex_unh (k := l.length / 2) (by omega) h
    rw [this]
    exact List.take_of_length_le (by omega)
theorem unhexB_length {l r : List UInt8} (h : unhexB l = some r) : 2 * r.length = l.length := by
  have := hex_unhex h
  rw [← this, hexB_length]
end Go.Proofs.Ytcapalofocmmoaa.SH
