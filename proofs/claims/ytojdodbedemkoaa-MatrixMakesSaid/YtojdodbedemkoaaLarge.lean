/- The walk of the law's own large. -/
import Derived.Test.YtojdodbedemkoaaRefMul
namespace Go.Proofs.Ytojdodbedemkoaa
open Go.RowKit
/-- What it has reckoned behind k rows; is any of it 2000 or more? -/
def largeN (m : List (List UInt8)) : Nat → Int
  | 0 => 0
  | k + 1 => wrap64 (wrap64 (largeN m k + 1) + ((m.getD k []).length : Int))
def largeB (m : List (List UInt8)) : Bool := (List.range (m.length + 1)).any fun k => decide (2000 ≤ largeN m k)
set_option maxRecDepth 100000 in
set_option maxHeartbeats 1000000 in
theorem large_any (v : Value) (m : List (List UInt8)) (w : World) (hm : MatAt w.heap v m) : Calls Try.prog 23 #[v] w fun e w' => e = .returned (.bool (largeB m)) ∧ ∃ n, w' = w.drewN n := by
  obtain ⟨p, q, rfl⟩ := seq_shape hm
  obtain ⟨_, _, _, hlen, _⟩ := (id hm : MatAt w.heap (.slice p m.length q) m)
  have HM := Lib.hid hm
  clear hm
  go_enter Try.func23, Try.ntmps23
  go_wp2
  go_loopw [3, 4] (fun n i wr => ∃ k : Nat, k ≤ m.length ∧ i = .int .i64 k ∧ n = .int .i64 (largeN m k) ∧ Hid (∀ j, j < k → largeN m j < 2000) ∧ ∃ d, wr = w.drewN d) (fun _ i _ => m.length - (intOf i).toNat)
  case atStart => exact ⟨0, by omega, rfl, rfl, fun j h => by omega, 0, rfl⟩
  case round =>
    obtain ⟨k, hk, rfl, rfl, hj, d, rfl⟩ := hrel
    by_cases hlt : k < m.length
    · obtain ⟨b, o, c, u, e, c1, r1⟩ := mat_row HM.out hlt
      injection e with e1 e2 e3
      subst e1
      obtain ⟨p1, q1, rfl⟩ := seq_shape r1
      have c1 : (w.drewN d).cell? ⟨b, o + k, none⟩ = some (.slice p1 (m.getD k []).length q1) := c1
      have hlt64 : (k : Int) < (m.length : Int) := by omega
      have hs : Hid (largeN m (k + 1) = wrap64 (wrap64 (largeN m k + 1) + ((m.getD k []).length : Int))) := rfl
      have hx1 : Hid (∀ b : Bool, decide (2000 ≤ largeN m k) = b → (b = true → largeB m = true) ∧ (b = false → ∀ j, j < k + 1 → largeN m j < 2000)) := fun b hb =>
        ⟨fun hb2 => List.any_eq_true.2 ⟨k, by simp; omega, by rw [hb, hb2]⟩, fun hb2 j hjk => by
          by_cases ej : j = k
          · subst ej; rw [hb2] at hb; have := of_decide_eq_false hb; omega
          · exact hj.out j (by omega)⟩
      clear r1 e2 e3
      generalize (m.getD k []).length = len at *
      generalize largeN m k = x at *
      by_cases hx : x < 2000
      · have HJ : Hid (∀ j, j < k + 1 → largeN m j < 2000) := (hx1.out false (decide_eq_false (by omega))).2 rfl
        go_wp2
        exact ⟨⟨k + 1, by omega, rfl, by rw [hs.out], HJ, _, rfl⟩, by simp [intOf]; omega⟩
      · have HB : Hid (largeB m = true) := (hx1.out true (decide_eq_true (by omega))).1 rfl
        have hx2 : decide (2000 ≤ x) = true := decide_eq_true (by omega)
        go_wp2
        go_ret
        exact ⟨by rw [HB.out]; rfl, _, rfl⟩
    · obtain rfl : k = m.length := by omega
      have HB : Hid (∀ b : Bool, decide (2000 ≤ largeN m m.length) = b → largeB m = b) := fun b hb => by
        cases b with
        | true => exact List.any_eq_true.2 ⟨m.length, by simp, hb⟩
        | false =>
          refine List.any_eq_false.2 fun j h => ?_
          have h : j < m.length + 1 := by simpa using h
          by_cases e : j = m.length
          · subst e; rw [hb]; simp
          · have := hj.out j (by omega); simp; omega
      generalize largeN m m.length = x at *
      go_wp2
      go_ret
      exact ⟨by rw [HB.out _ rfl]; rfl, _, rfl⟩
end Go.Proofs.Ytojdodbedemkoaa
