/- A row of bytes that a call made: a byte of it set, and read as a text again. No program in sight but its types. -/
import Derived.Test.YtcapalofocmmoaaSExam
import Derived.Test.YtcapalofocmmoaaConv
namespace Go.Proofs.Ytcapalofocmmoaa
open Go.RowKit
theorem BRow.of {S : Nat → Prop} {h : Array Obj} {r n c : Nat} {l : List UInt8} (s : RowIn S h (.slice (some ⟨r, 0, none⟩) n c) l) (h0 : 0 < l.length) : BRow h r l.length (fun j => l.getD j 0) := by
  obtain ⟨a, cap, e, hl, hel⟩ := s
  injection e with e1 e2 e3
  subst e1
  refine ⟨?_, fun j hj => ?_⟩
  · obtain ⟨b, off, u, e1, ⟨e0, et⟩, e2, e3, e4⟩ := hel 0 h0
    injection e1 with e1
    injection e1 with e1 e5
    subst e1
    exact et
  · obtain ⟨b, off, u, e1, ⟨e0, et⟩, e2, e3, e4⟩ := hel j hj
    injection e1 with e1
    injection e1 with e1 e5
    subst e1
    subst e5
    rw [Nat.zero_add] at e2 e3
    unfold IsByte at e4
    refine ⟨e2, ?_⟩
    rw [e3, e4]
    dsimp only
    rw [List.getD_eq_getElem?_getD, List.getElem?_eq_getElem hj]; rfl
theorem BRow.at_c {h : Array Obj} {r n c : Nat} {f : Nat → UInt8} (k : BRow h r n f) (hn : n ≤ 9223372036854775807) : RowAt h (.slice (some ⟨r, 0, none⟩) n c) ((List.range n).map f) :=
  ⟨_, c, by simp, by simpa using hn, fun i hi => ⟨r, 0, _, rfl, by rw [Nat.zero_add]; exact (k.2 i (by simpa using hi)).2, by simp [IsByte]⟩⟩
theorem range_set (l : List UInt8) (j : Nat) (x : UInt8) : (List.range l.length).map (fun q => if q = j then x else l.getD q 0) = l.set j x := by
  apply List.ext_getElem
  · simp
  · intro i h1 h2
    simp only [List.length_map, List.length_range] at h1
    rw [List.getElem_map, List.getElem_range, List.getElem_set]
    by_cases e : i = j
    · subst e; simp
    · rw [if_neg e, if_neg (fun h => e h.symm), List.getD_eq_getElem?_getD, List.getElem?_eq_getElem h1]; rfl
theorem BRow.set_at {w : World} {r c : Nat} {l : List UInt8} (k : BRow w.heap r l.length (fun j => l.getD j 0)) {j : Nat} (hj : j < l.length) (x : UInt8) (hn : l.length ≤ 9223372036854775807) : RowAt (w.setCell ⟨r, j, none⟩ (.int .u8 (x.toNat : Int))).heap (.slice (some ⟨r, 0, none⟩) l.length c) (l.set j x) := by
  have := (k.set hj x).at_c (c := c) hn
  rwa [range_set] at this
theorem BRow.cell {w : World} {r n : Nat} {f : Nat → UInt8} (k : BRow w.heap r n f) {j : Nat} (hj : j < n) : w.cell? ⟨r, j, none⟩ = some (.int .u8 ((f j).toNat : Int)) ∧ w.frozen? ⟨r, j, none⟩ = false := by
  rw [cell_of, froz_of]
  exact ⟨(k.2 j hj).2, (k.2 j hj).1⟩
theorem RowAt.front {h : Array Obj} {a : Addr} {l : List UInt8} {n c : Nat} (s : RowAt h (.slice (some a) n c) l) (m c' : Nat) (hm : m ≤ l.length) : RowAt h (.slice (some a) m c') (l.take m) := by
  obtain ⟨a', cap, e, hl, hel⟩ := s
  injection e with e1 e2 e3
  subst e1
  have hlt : (l.take m).length = m := by rw [List.length_take]; omega
  refine ⟨_, c', by rw [hlt], by omega, fun i hi => ?_⟩
  rw [hlt] at hi
  obtain ⟨b, off, u, e1, e2, e3⟩ := hel i (by omega)
  refine ⟨b, off, u, e1, e2, ?_⟩
  rw [List.getElem_take]; exact e3
theorem RowAt.back {h : Array Obj} {r o : Nat} {l : List UInt8} {n c : Nat} (s : RowAt h (.slice (some ⟨r, o, none⟩) n c) l) (m n' c' : Nat) (hm : m ≤ l.length) (hn : n' = l.length - m) : RowAt h (.slice (some ⟨r, o + m, none⟩) n' c') (l.drop m) := by
  obtain ⟨a', cap, e, hl, hel⟩ := s
  injection e with e1 e2 e3
  subst e1
  have hlt : (l.drop m).length = n' := by rw [List.length_drop, hn]
  refine ⟨_, c', by rw [hlt], by omega, fun i hi => ?_⟩
  rw [hlt] at hi
  obtain ⟨b, off, u, e1, e2, e3⟩ := hel (m + i) (by omega)
  injection e1 with e1
  injection e1 with e1 e5
  subst e1
  subst e5
  refine ⟨r, o + m, u, rfl, by rw [show o + m + i = o + (m + i) by omega]; exact e2, ?_⟩
  rw [List.getElem_drop]; exact e3
end Go.Proofs.Ytcapalofocmmoaa
