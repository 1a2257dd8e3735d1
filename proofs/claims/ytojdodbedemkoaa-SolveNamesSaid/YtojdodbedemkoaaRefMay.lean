/- The walks of strongboxref03.May and of the law's own large. -/
import Derived.Test.YtojdodbedemkoaaMatRows
namespace Go.Proofs.Ytojdodbedemkoaa
open Go.RowKit

set_option maxRecDepth 100000 in
set_option maxHeartbeats 4000000 in
theorem refmay_any (va : Value) (m : List (List UInt8)) (w : World) (ha : MatAt w.heap va m) :
    Calls Try.prog 31 #[va] w fun e w' => e = .returned (.bool (mayB 12 m)) ∧ ∃ n, w' = w.drewN n := by
  obtain ⟨pa, qa, rfl⟩ := seq_shape ha
  have HA := Lib.hid ha
  by_cases h1 : 1 ≤ m.length
  · by_cases h2 : m.length ≤ 12
    · obtain ⟨b1, o1, p1, q1, rfl, d1⟩ := row0' ha h1
      obtain ⟨na, hna⟩ : ∃ na, na = (m.headD []).length := ⟨_, rfl⟩
      rw [← hna] at d1
      have HNA := Lib.hid hna
      clear hna ha
      have i1 : (0 : Int) < (m.length : Int) := by omega
      go_enter Try.func31, Try.ntmps31
      go_wp2
      go_loopw [3] (fun i wr => ∃ k : Nat, k ≤ m.length ∧ i = .int .i64 k ∧ Hid (∀ j (h : j < m.length), j < k → 1 ≤ m[j].length ∧ m[j].length ≤ 12 ∧ m[j].length = na) ∧ ∃ n, wr = w.drewN n) (fun i _ => m.length - (intOf i).toNat)
      case atStart => exact ⟨0, by omega, rfl, fun j _ h => by omega, 0, rfl⟩
      case round =>
        obtain ⟨k, hk, rfl, hno, n0, rfl⟩ := hrel
        by_cases hlt : k < m.length
        · obtain ⟨b2, o2, c2, u2, e2, c1, r1⟩ := mat_row HA.out hlt
          injection e2 with e3 e4 e5
          injection e3 with e3
          injection e3 with e6 e7
          subst e6 e7
          obtain ⟨p2, q2, rfl⟩ := seq_shape r1
          have hg : m.getD k [] = m[k] := by rw [List.getD_eq_getElem?_getD, List.getElem?_eq_getElem hlt]; rfl
          rw [hg] at c1
          obtain ⟨lk, hlk⟩ : ∃ lk, lk = m[k].length := ⟨_, rfl⟩
          rw [← hlk] at c1
          have HLK := Lib.hid hlk
          have hlt64 : (k : Int) < (m.length : Int) := by omega
          clear hg r1 hlk e4 e5
          by_cases x1 : 1 ≤ lk
          · have q1 : decide ((lk : Int) < 1) = false := decide_eq_false (by omega)
            by_cases x2 : lk ≤ 12
            · have q2 : decide (12 < (lk : Int)) = false := decide_eq_false (by omega)
              by_cases x3 : lk = na
              · have hb : ((lk : Int) != (na : Int)) = false := by rw [bne_eq_false_iff_eq, x3]
                have HO : Hid (∀ j (h : j < m.length), j < k + 1 → 1 ≤ m[j].length ∧ m[j].length ≤ 12 ∧ m[j].length = na) := fun j h hj => by
                  by_cases e : j = k
                  · subst e; rw [← HLK.out]; exact ⟨x1, x2, x3⟩
                  · exact hno.out j h (by omega)
                clear x3
                go_wp2
                go_region
                all_goals
                  go_wp2
                  exact ⟨⟨k + 1, by omega, rfl, HO, _, rfl⟩, by simp [intOf]; omega⟩
              · have hb : ((lk : Int) != (na : Int)) = true := by rw [bne_iff_ne]; omega
                have HE : Hid (mayB 12 m = false) := by
                  refine decide_eq_false fun h => x3 ?_
                  rw [HLK.out, HNA.out]; exact h.2.2.2.2 _ (List.getElem_mem hlt)
                clear x3
                go_wp2
                go_region
                all_goals
                  go_wp2
                  go_ret
                  exact ⟨by rw [HE.out]; rfl, _, rfl⟩
            · have q2 : decide (12 < (lk : Int)) = true := decide_eq_true (by omega)
              have HE : Hid (mayB 12 m = false) := by
                refine decide_eq_false fun h => x2 ?_
                have h1 := h.2.2.2.2 _ (List.getElem_mem hlt)
                have h2 := HLK.out
                have h3 := h.2.2.2.1
                omega
              go_wp2
              go_region
              all_goals
                go_wp2
                go_ret
                exact ⟨by rw [HE.out]; rfl, _, rfl⟩
          · have q1 : decide ((lk : Int) < 1) = true := decide_eq_true (by omega)
            have HE : Hid (mayB 12 m = false) := by
              refine decide_eq_false fun h => x1 ?_
              have h1 := h.2.2.2.2 _ (List.getElem_mem hlt)
              have h2 := HLK.out
              have h3 := h.2.2.1
              omega
            go_wp2
            go_region
            all_goals
              go_wp2
              go_ret
              exact ⟨by rw [HE.out]; rfl, _, rfl⟩
        · obtain rfl : k = m.length := by omega
          have HE : Hid (mayB 12 m = true) := by
            have h0 := hno.out 0 (by omega) (by omega)
            have hz : m[0].length = na := h0.2.2
            refine mayB_iff.2 ⟨h1, h2, by rw [← HNA.out]; omega, by rw [← HNA.out]; omega, fun r hr => ?_⟩
            obtain ⟨j, hj, rfl⟩ := List.getElem_of_mem hr
            rw [← HNA.out]; exact (hno.out j hj hj).2.2
          go_wp2
          go_ret
          exact ⟨by rw [HE.out]; rfl, _, rfl⟩
    · have HE : Hid (mayB 12 m = false) := decide_eq_false fun h => h2 h.2.1
      clear ha
      go_enter Try.func31, Try.ntmps31
      go_wp2
      go_ret
      exact ⟨by rw [HE.out]; rfl, 0, rfl⟩
  · have HE : Hid (mayB 12 m = false) := decide_eq_false fun h => h1 h.1
    clear ha
    go_enter Try.func31, Try.ntmps31
    go_wp2
    go_ret
    exact ⟨by rw [HE.out]; rfl, 0, rfl⟩
end Go.Proofs.Ytojdodbedemkoaa
