/- The walks of path.step's own test of a byte, and of slices.IndexFunc at it. -/
import Derived.Test.YtdpfanifagfciaaDoorText
import Derived.Test.YtdpfanifagfciaaDoorPathM
namespace Go.Proofs.YtdpfanifagfciaaDoor
open Go.RowKit
/-- A byte that no step has. -/
def oddB (c : UInt8) : Bool := decide (c.toNat ≤ 32) || decide (126 < c.toNat)
set_option maxRecDepth 100000 in
set_option maxHeartbeats 1000000 in
theorem odd_any (c : UInt8) (w : World) : Calls Tryd.prog 74 #[.int .u8 (c.toNat : Int)] w fun e w' => e = .returned (.bool (oddB c)) ∧ w' = w := by
  have hc : c.toNat < 256 := c.toNat_lt
  unfold oddB
  generalize c.toNat = x at *
  go_enter Tryd.func74, Tryd.ntmps74
  by_cases h1 : x ≤ 32
  · have h2 : (x : Int) ≤ 32 := by omega
    go_wp2
    go_ret
    exact ⟨by simp [h1], rfl⟩
  · have h2 : ¬ (x : Int) ≤ 32 := by omega
    by_cases h3 : 126 < x
    · have h4 : (126 : Int) < (x : Int) := by omega
      go_wp2
      go_ret
      exact ⟨by simp [h3], rfl⟩
    · have h4 : ¬ (126 : Int) < (x : Int) := by omega
      go_wp2
      go_ret
      exact ⟨by simp [h1, h3], rfl⟩
theorem byte_cellS {w : World} {p : Option Addr} {n c : Nat} {W : List UInt8} (h : RowAt w.heap (.slice p n c) W) {i : Nat} (hi : i < W.length) : ∃ b off, p = some ⟨b, off, none⟩ ∧ w.cell? ⟨b, off + i, none⟩ = some (.int .u8 ((W.getD i 0).toNat : Int)) := by
  obtain ⟨b, off, c', u, e, c1, r1⟩ := seq_cell h hi
  injection e with e1 _ _
  unfold IsByte at r1
  exact ⟨b, off, e1, by rw [c1, r1, List.getD_eq_getElem?_getD, List.getElem?_eq_getElem hi]; rfl⟩
set_option maxRecDepth 100000 in
set_option maxHeartbeats 1000000 in
theorem idxf_any (v : Value) (r : List UInt8) (w : World) (h : RowAt w.heap v r) : Calls Tryd.prog 83 #[v, .func (.func 74) #[] #[]] w fun e w' => ∃ i : Int, e = .returned (.int .i64 i) ∧ decide (0 ≤ i) = r.any oddB ∧ ∃ m, w' = w.drewN m := by
  have hl63 : r.length ≤ 9223372036854775807 := let ⟨_, _, _, x, _⟩ := h; x
  obtain ⟨p, q, rfl⟩ := seq_shape h
  have HR := Lib.hid h
  clear h
  go_enter Tryd.func83, Tryd.ntmps83
  go_wp2
  go_loopw [5, 8] (fun _ i wr => ∃ k : Nat, k ≤ r.length ∧ i = .int .i64 k ∧ Hid (∀ j, j < k → oddB (r.getD j 0) = false) ∧ ∃ m, wr = w.drewN m) (fun _ i _ => r.length - (intOf i).toNat)
  case atStart => exact ⟨0, by omega, rfl, fun j h => by omega, 0, rfl⟩
  case round =>
    obtain ⟨k, hk, rfl, hI, m, rfl⟩ := hrel
    by_cases hlt : k < r.length
    · have hlt64 : (k : Int) < (r.length : Int) := by omega
      have hk0 : (0 : Int) ≤ (k : Int) := by omega
      obtain ⟨b, o, rfl, d1⟩ := byte_cellS HR.out hlt
      have D1 : (w.drewN m).cell? ⟨b, o + k, none⟩ = some (.int .u8 ((r.getD k 0).toNat : Int)) := d1
      have HA : Hid (oddB (r.getD k 0) = true → r.any oddB = true) := fun e => by
        rw [List.any_eq_true]
        exact ⟨r[k], List.getElem_mem hlt, by rw [List.getD_eq_getElem?_getD, List.getElem?_eq_getElem hlt] at e; exact e⟩
      have HN : Hid (oddB (r.getD k 0) = false → ∀ j, j < k + 1 → oddB (r.getD j 0) = false) := fun e j hj => by
        by_cases h : j = k
        · subst h; exact e
        · exact hI.out j (by omega)
      clear d1
      generalize r.getD k 0 = c at *
      go_wp2_with fail
      refine Calls.mono (odd_any c _) ?_
      rintro e w' ⟨rfl, rfl⟩
      cases ho : oddB c with
      | true =>
        have HA2 := Lib.hid (HA.out ho)
        go_wp2
        go_ret
        exact ⟨_, rfl, by rw [HA2.out]; exact decide_eq_true hk0, _, rfl⟩
      | false =>
        have HN2 := Lib.hid (HN.out ho)
        go_wp2
        exact ⟨⟨k + 1, by omega, by go_num, HN2, _, rfl⟩, by simp [intOf]; omega⟩
    · have hlt64 : ¬ (k : Int) < (r.length : Int) := by omega
      have HF : Hid (r.any oddB = false) := by
        show _ = _
        rw [List.any_eq_false]
        intro x hx
        obtain ⟨j, hj, rfl⟩ := List.getElem_of_mem hx
        have := hI.out j (by omega)
        rw [List.getD_eq_getElem?_getD, List.getElem?_eq_getElem hj] at this
        simpa using this
      go_wp2
      go_ret
      exact ⟨-1, rfl, by rw [HF.out]; rfl, _, rfl⟩
set_option maxRecDepth 100000 in
set_option maxHeartbeats 1000000 in
theorem contf_any (v : Value) (r : List UInt8) (w : World) (h : RowAt w.heap v r) : Calls Tryd.prog 73 #[v, .func (.func 74) #[] #[]] w fun e w' => e = .returned (.bool (r.any oddB)) ∧ ∃ m, w' = w.drewN m := by
  go_enter Tryd.func73, Tryd.ntmps73
  go_wp2_with fail
  refine Calls.mono (idxf_any v r _ h) ?_
  rintro e w' ⟨i, rfl, hi, m, rfl⟩
  go_wp2
  go_ret
  exact ⟨by rw [← hi]; rfl, _, rfl⟩
end Go.Proofs.YtdpfanifagfciaaDoor
