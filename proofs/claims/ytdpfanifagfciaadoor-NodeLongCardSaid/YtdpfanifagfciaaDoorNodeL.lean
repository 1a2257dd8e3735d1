/- How long a directory's bytes are; unlike entries have unlike bytes. Plain. -/
import Derived.Test.YtdpfanifagfciaaDoorNodeM
namespace Go.Proofs.YtdpfanifagfciaaDoor
open Go.RowKit
theorem ofNat_inj {a b : Nat} (h : UInt8.ofNat a = UInt8.ofNat b) : a % 256 = b % 256 := by
  have := congrArg UInt8.toNat h
  simpa using this
theorem numB_one (n : Nat) : numB n 1 = [UInt8.ofNat n] := by simp [numB, numAt, List.range_succ]
theorem numB_two (n : Nat) : numB n 2 = [UInt8.ofNat (n / 256), UInt8.ofNat n] := by simp [numB, numAt, List.range_succ]
theorem numB_four (n : Nat) : numB n 4 = [UInt8.ofNat (n / 16777216), UInt8.ofNat (n / 65536), UInt8.ofNat (n / 256), UInt8.ofNat n] := by simp [numB, numAt, List.range_succ]
theorem numB_inj1 {n m : Nat} (h : numB n 1 = numB m 1) (hn : n < 256) (hm : m < 256) : n = m := by
  rw [numB_one, numB_one] at h
  have := ofNat_inj (List.cons.inj h).1
  omega
theorem numB_inj2 {n m : Nat} (h : numB n 2 = numB m 2) (hn : n < 65536) (hm : m < 65536) : n = m := by
  rw [numB_two, numB_two] at h
  have h0 := ofNat_inj (List.cons.inj h).1
  have h1 := ofNat_inj (List.cons.inj (List.cons.inj h).2).1
  omega
theorem numB_inj4 {n m : Nat} (h : numB n 4 = numB m 4) (hn : n < 16777216) (hm : m < 16777216) : n = m := by
  rw [numB_four, numB_four] at h
  have h1 := ofNat_inj (List.cons.inj (List.cons.inj h).2).1
  have h2 := ofNat_inj (List.cons.inj (List.cons.inj (List.cons.inj h).2).2).1
  have h3 := ofNat_inj (List.cons.inj (List.cons.inj (List.cons.inj (List.cons.inj h).2).2).2).1
  omega
theorem ba_ext {a b : ByteArray} (h : a.data.toList = b.data.toList) : a = b := by
  cases a; cases b; simp only at h; congr 1; exact Array.ext' h
theorem flatC_inj : ∀ {c d : List ByteArray}, (∀ s ∈ c, s.size = 32) → (∀ s ∈ d, s.size = 32) → c.length = d.length → flatC c = flatC d → c = d
  | [], [], _, _, _, _ => rfl
  | [], _ :: _, _, _, h, _ => by simp at h
  | _ :: _, [], _, _, h, _ => by simp at h
  | x :: c, y :: d, hc, hd, hl, h => by
    unfold flatC at h
    rw [List.map_cons, List.map_cons, List.flatten_cons, List.flatten_cons] at h
    obtain ⟨h1, h2⟩ := List.append_inj h (by rw [data_size, data_size, hc x (List.mem_cons_self ..), hd y (List.mem_cons_self ..)])
    rw [ba_ext h1, flatC_inj (fun s hs => hc s (List.mem_cons_of_mem _ hs)) (fun s hs => hd s (List.mem_cons_of_mem _ hs)) (by simpa using hl) h2]
/-- An entry's bytes tell it, whatever follows. -/
theorem entB_inj {x y : EntR} {r s : List UInt8} (hx : mayE x = true) (hy : mayE y = true) (h : entB x ++ r = entB y ++ s) : x = y ∧ r = s := by
  obtain ⟨x1, x2, x3, x4, x5⟩ := mayE_nums hx
  obtain ⟨y1, y2, y3, y4, y5⟩ := mayE_nums hy
  unfold entB at h
  simp only [List.append_assoc] at h
  obtain ⟨e1, h⟩ := List.append_inj h (by rw [numB_length, numB_length])
  obtain ⟨e2, h⟩ := List.append_inj h (by rw [numB_length, numB_length])
  have f2 := numB_inj1 e2 (by omega) (by omega)
  obtain ⟨e3, h⟩ := List.append_inj h (by rw [data_size, data_size, f2])
  obtain ⟨e4, h⟩ := List.append_inj h (by rw [numB_length, numB_length])
  have f4 := numB_inj4 e4 (by omega) (by omega)
  obtain ⟨e5, h⟩ := List.append_inj h (by rw [numB_length, numB_length])
  have f5 := numB_inj2 e5 (by omega) (by omega)
  obtain ⟨e6, h⟩ := List.append_inj h (by rw [flatC_length x5, flatC_length y5, f5])
  refine ⟨?_, h⟩
  have hk := numB_inj1 e1 (by unfold kindB; split <;> omega) (by unfold kindB; split <;> omega)
  have hd : x.d = y.d := by
    unfold kindB at hk
    cases hx : x.d <;> cases hy : y.d <;> simp_all
  have hc := flatC_inj x5 y5 f5 e6
  obtain ⟨xn, xd, xz, xc⟩ := x
  obtain ⟨yn, yd, yz, yc⟩ := y
  simp only at *
  subst hd hc
  rw [ba_ext e3, show xz = yz by omega]
theorem ents_inj : ∀ {l m : List EntR} {r s : List UInt8}, (∀ x ∈ l, mayE x = true) → (∀ x ∈ m, mayE x = true) → l.length = m.length → (l.map entB).flatten ++ r = (m.map entB).flatten ++ s → l = m ∧ r = s
  | [], [], _, _, _, _, _, h => ⟨rfl, by simpa using h⟩
  | [], _ :: _, _, _, _, _, h, _ => by simp at h
  | _ :: _, [], _, _, _, _, h, _ => by simp at h
  | x :: l, y :: m, _, _, hl, hm, hn, h => by
    rw [List.map_cons, List.map_cons, List.flatten_cons, List.flatten_cons, List.append_assoc, List.append_assoc] at h
    obtain ⟨e1, h2⟩ := entB_inj (hl x (List.mem_cons_self ..)) (hm y (List.mem_cons_self ..)) h
    obtain ⟨e3, e4⟩ := ents_inj (fun z hz => hl z (List.mem_cons_of_mem _ hz)) (fun z hz => hm z (List.mem_cons_of_mem _ hz)) (by simpa using hn) h2
    exact ⟨by rw [e1, e3], e4⟩
theorem mayL_mem {l : List EntR} (h : mayL l = true) {x : EntR} (hx : x ∈ l) : mayE x = true := by
  obtain ⟨i, hi, rfl⟩ := mem_eAt hx
  exact mayL_at h hi
/-- Unlike entries have unlike bytes. -/
theorem makeB_inj {l m : List EntR} (hl : mayL l = true) (hm : mayL m = true) (h : makeB l = makeB m) : l = m := by
  have h1 := (mayL_all hl).1
  have h2 := (mayL_all hm).1
  unfold makeB makeTo at h
  simp only [List.append_assoc] at h
  obtain ⟨_, h⟩ := List.append_inj h rfl
  obtain ⟨e, h⟩ := List.append_inj h (by rw [numB_length, numB_length])
  have hn := numB_inj2 e (by omega) (by omega)
  rw [List.take_length, List.take_length] at h
  exact (ents_inj (r := []) (s := []) (fun x hx => mayL_mem hl hx) (fun x hx => mayL_mem hm hx) hn (by simpa using h)).1
/-- How many bytes some entries have. -/
def lenE (l : List EntR) (k : Nat) : Nat := 6 + ((l.take k).map fun x => 8 + x.n.size + 32 * x.c.length).sum
theorem lenE_succ {l : List EntR} {k : Nat} (h : k < l.length) : lenE l (k + 1) = lenE l k + (8 + (eAt l k).n.size + 32 * (eAt l k).c.length) := by
  unfold lenE; rw [take_eAt h]; simp; omega
theorem lenE_le {l : List EntR} (h : ∀ x ∈ l, x.c.length < 3000 ∧ x.n.size < 200000) : ∀ k, k ≤ l.length → lenE l k ≤ 6 + k * 1000000
  | 0, _ => by unfold lenE; simp
  | k + 1, hk => by
    have ih := lenE_le h k (by omega)
    have := h _ (eAt_mem (show k < l.length by omega))
    rw [lenE_succ (by omega)]; omega
theorem makeTo_len {l : List EntR} (h : mayL l = true) : ∀ k, k ≤ l.length → (makeTo l k).length = lenE l k
  | 0, _ => by unfold makeTo lenE; simp [numB_length]
  | k + 1, hk => by
    have ih := makeTo_len h k (by omega)
    rw [makeTo_succ (by omega), List.length_append, entB_length (mayL_at h (by omega)), ih, lenE_succ (by omega)]
/-- What Make tells. -/
theorem makeE_cases (l : List EntR) : (makeE l = (⟨#[]⟩, 4) ∧ mayL l = false) ∨ (makeE l = (⟨#[]⟩, 40) ∧ mayL l = true) ∨ (makeE l = (strB (makeB l), 0) ∧ mayL l = true ∧ (makeB l).length ≤ 16384) := by
  unfold makeE
  cases h : mayL l with
  | false => exact .inl ⟨rfl, rfl⟩
  | true =>
    by_cases h2 : 16384 < (makeB l).length
    · exact .inr (.inl ⟨by simp [h2], rfl⟩)
    · exact .inr (.inr ⟨by simp [h2], rfl, by omega⟩)
end Go.Proofs.YtdpfanifagfciaaDoor
