/- The walks of strongboxref04's Same and May, and of the solve laws' own long and own. -/
import Derived.Test.YtojdodbedemkoaaGive
import Derived.Test.YtojdodbedemkoaaRefRows
namespace Go.Proofs.Ytojdodbedemkoaa
open Go.RowKit

set_option maxRecDepth 100000 in
set_option maxHeartbeats 1000000 in
theorem same04_any (va vb : Value) (ma mb : List (List UInt8)) (w : World) (ha : MatAt w.heap va ma) (hb : MatAt w.heap vb mb) :
    Calls Try.prog 42 #[va, vb] w fun e w' => e = .returned (.bool (decide (ma = mb))) ∧ ∃ n, w' = w.drewN n := by
  obtain ⟨a, ca, rfl, hla, hea⟩ := ha
  obtain ⟨b, cb, rfl, hlb, heb⟩ := hb
  by_cases hl : ma.length = mb.length
  · have HEA := Lib.hid hea
    have HEB := Lib.hid heb
    have HL := Lib.hid hl
    have hl1 : (((ma.length : Nat) : Int) == ((mb.length : Nat) : Int)) = true := by rw [beq_iff_eq, hl]
    have hl2 : (((ma.length : Nat) : Int) != ((mb.length : Nat) : Int)) = false := by rw [bne_eq_false_iff_eq, hl]
    clear hea heb hl
    go_enter Try.func42, Try.ntmps42
    go_wp2
    clear hl1 hl2
    go_loopw [5] (fun i wr => ∃ k : Nat, k ≤ ma.length ∧ i = .int .i64 k ∧ Hid (∀ j (h : j < ma.length) (h' : j < mb.length), j < k → ma[j] = mb[j]) ∧ ∃ n, wr = w.drewN n) (fun i _ => ma.length - (intOf i).toNat)
    case atStart => exact ⟨0, by omega, rfl, fun j _ _ h => by omega, 0, rfl⟩
    case round =>
      obtain ⟨k, hk, rfl, hno, n0, rfl⟩ := hrel
      by_cases hlt : k < ma.length
      · have hlt' : k < mb.length := by have := HL.out; omega
        obtain ⟨ba, oa, ua, ea, c1, r1⟩ := HEA.out k hlt
        obtain ⟨bb, ob, ub, eb, c2, r2⟩ := HEB.out k hlt'
        subst ea
        subst eb
        rw [← cell_of] at c1 c2
        have k1 := conv8 r1
        have k2 := conv8 r2
        have hse := strB_eq ma[k] mb[k]
        by_cases he : ma[k] = mb[k]
        · rw [decide_eq_true he] at hse
          have HE := Lib.hid he
          clear he r1 r2
          go_wp2
          go_quiet (fail)
          go_wp2
          refine ⟨⟨k + 1, by omega, rfl, fun j h h' hj => ?_, _, rfl⟩, by simp [intOf]; omega⟩
          by_cases e : j = k
          · subst e; exact HE.out
          · exact hno.out j h h' (by omega)
        · rw [decide_eq_false he] at hse
          have HE : Hid (decide (ma = mb) = false) := decide_eq_false fun h => he (by subst h; rfl)
          clear he r1 r2
          go_wp2
          go_quiet (fail)
          go_wp2
          go_ret
          exact ⟨by rw [HE.out]; rfl, n0 + nq, by rw [World.drewN_drewN]⟩
      · obtain rfl : k = ma.length := by omega
        have HE : Hid (decide (ma = mb) = true) := decide_eq_true (List.ext_getElem HL.out fun j h1 h2 => hno.out j h1 h2 h1)
        go_wp2
        go_ret
        exact ⟨by rw [HE.out]; rfl, _, rfl⟩
  · have HE : Hid (decide (ma = mb) = false) := decide_eq_false fun h => hl (by rw [h])
    have hl2 : (((ma.length : Nat) : Int) != ((mb.length : Nat) : Int)) = true := by rw [bne_iff_ne]; omega
    clear hl
    go_enter Try.func42, Try.ntmps42
    go_wp2
    go_ret
    exact ⟨by rw [HE.out]; rfl, 0, rfl⟩


/-- Is a matrix more than a statement goes over? -/
def longB (m : List (List UInt8)) : Bool := decide (12 < m.length) || m.any fun r => decide (14 < r.length)
set_option maxRecDepth 100000 in
set_option maxHeartbeats 1000000 in
theorem long_any (v : Value) (m : List (List UInt8)) (w : World) (hm : MatAt w.heap v m) : Calls Try.prog 37 #[v] w fun e w' => e = .returned (.bool (longB m)) ∧ ∃ n, w' = w.drewN n := by
  obtain ⟨p, q, rfl⟩ := seq_shape hm
  have HM := Lib.hid hm
  clear hm
  by_cases h12 : 12 < m.length
  · have HB : Hid (longB m = true) := by show _ = _; unfold longB; rw [decide_eq_true h12]; rfl
    have h1 : decide (12 < (m.length : Int)) = true := decide_eq_true (by omega)
    go_enter Try.func37, Try.ntmps37
    go_wp2
    go_ret
    exact ⟨by rw [HB.out]; rfl, 0, rfl⟩
  · have h1 : decide (12 < (m.length : Int)) = false := decide_eq_false (by omega)
    have HL : Hid (longB m = m.any fun r => decide (14 < r.length)) := by show _ = _; unfold longB; rw [decide_eq_false h12]; rfl
    go_enter Try.func37, Try.ntmps37
    go_wp2
    go_loopw [3] (fun i wr => ∃ k : Nat, k ≤ m.length ∧ i = .int .i64 k ∧ Hid (∀ j (h : j < m.length), j < k → m[j].length ≤ 14) ∧ ∃ d, wr = w.drewN d) (fun i _ => m.length - (intOf i).toNat)
    case atStart => exact ⟨0, by omega, rfl, fun j _ h => by omega, 0, rfl⟩
    case round =>
      obtain ⟨k, hk, rfl, hj, d, rfl⟩ := hrel
      by_cases hlt : k < m.length
      · obtain ⟨b, o, c, u, e, c1, r1⟩ := mat_row HM.out hlt
        injection e with e1 e2 e3
        subst e1
        obtain ⟨p1, q1, rfl⟩ := seq_shape r1
        have hg : m.getD k [] = m[k] := by rw [List.getD_eq_getElem?_getD, List.getElem?_eq_getElem hlt]; rfl
        rw [hg] at c1
        have c1 : (w.drewN d).cell? ⟨b, o + k, none⟩ = some (.slice p1 m[k].length q1) := c1
        have hlt64 : (k : Int) < (m.length : Int) := by omega
        obtain ⟨lk, hlk⟩ : ∃ lk, lk = m[k].length := ⟨_, rfl⟩
        rw [← hlk] at c1
        have HLK := Lib.hid hlk
        clear r1 e2 e3 hg hlk
        by_cases hx : 14 < lk
        · have hx1 : decide (14 < (lk : Int)) = true := decide_eq_true (by omega)
          have HB : Hid (longB m = true) := by
            show _ = _
            rw [HL.out]; exact List.any_eq_true.2 ⟨m[k], List.getElem_mem hlt, decide_eq_true (by rw [← HLK.out]; exact hx)⟩
          go_wp2
          go_ret
          exact ⟨by rw [HB.out]; rfl, _, rfl⟩
        · have hx1 : decide (14 < (lk : Int)) = false := decide_eq_false (by omega)
          have HJ : Hid (∀ j (h : j < m.length), j < k + 1 → m[j].length ≤ 14) := fun j h hjk => by
            by_cases ej : j = k
            · subst ej; rw [← HLK.out]; omega
            · exact hj.out j h (by omega)
          go_wp2
          exact ⟨⟨k + 1, by omega, rfl, HJ, _, rfl⟩, by simp [intOf]; omega⟩
      · obtain rfl : k = m.length := by omega
        have HB : Hid (longB m = false) := by
          show _ = _
          rw [HL.out]
          refine List.any_eq_false.2 fun r hr => ?_
          obtain ⟨j, h, rfl⟩ := List.getElem_of_mem hr
          have := hj.out j h h
          simp; omega
        go_wp2
        go_ret
        exact ⟨by rw [HB.out]; rfl, _, rfl⟩

set_option maxRecDepth 100000 in
set_option maxHeartbeats 4000000 in
theorem refmay04_any (va : Value) (m : List (List UInt8)) (w : World) (ha : MatAt w.heap va m) :
    Calls Try.prog 40 #[va] w fun e w' => e = .returned (.bool (mayB 255 m)) ∧ ∃ n, w' = w.drewN n := by
  obtain ⟨pa, qa, rfl⟩ := seq_shape ha
  have HA := Lib.hid ha
  by_cases h1 : 1 ≤ m.length
  · by_cases h2 : m.length ≤ 255
    · obtain ⟨b1, o1, p1, q1, rfl, d1⟩ := row0' ha h1
      obtain ⟨na, hna⟩ : ∃ na, na = (m.headD []).length := ⟨_, rfl⟩
      rw [← hna] at d1
      have HNA := Lib.hid hna
      clear hna ha
      have i1 : (0 : Int) < (m.length : Int) := by omega
      have i2 : decide ((m.length : Int) < 1) = false := decide_eq_false (by omega)
      have i3 : decide (255 < (m.length : Int)) = false := decide_eq_false (by omega)
      by_cases h3 : 1 ≤ na
      · have i4 : decide ((na : Int) < 1) = false := decide_eq_false (by omega)
        by_cases h4 : na ≤ 255
        · have i5 : decide (255 < (na : Int)) = false := decide_eq_false (by omega)
          go_enter Try.func40, Try.ntmps40
          go_wp2
          go_loopw [3] (fun i wr => ∃ k : Nat, k ≤ m.length ∧ i = .int .i64 k ∧ Hid (∀ j (h : j < m.length), j < k → m[j].length = na) ∧ ∃ n, wr = w.drewN n) (fun i _ => m.length - (intOf i).toNat)
          case atStart => exact ⟨0, by omega, rfl, fun j _ h => by omega, 0, rfl⟩
          case round =>
            obtain ⟨k, hk, rfl, hno, n0, rfl⟩ := hrel
            by_cases hlt : k < m.length
            · obtain ⟨b2, o2, c2, u2, e2, c1, r1⟩ := mat_row HA.out hlt
              injection e2 with e3 e4 e5
              injection e3 with e3
              injection e3 with e6 e7
              subst e6 e7
              obtain ⟨p2, q2, rfl⟩ := seq_shape r1
              have hg : m.getD k [] = m[k] := by rw [List.getD_eq_getElem?_getD, List.getElem?_eq_getElem hlt]; rfl
              rw [hg] at c1
              obtain ⟨lk, hlk⟩ : ∃ lk, lk = m[k].length := ⟨_, rfl⟩
              rw [← hlk] at c1
              have HLK := Lib.hid hlk
              have hlt64 : (k : Int) < (m.length : Int) := by omega
              clear hg r1 hlk e4 e5
              by_cases x3 : lk = na
              · have hb : ((lk : Int) != (na : Int)) = false := by rw [bne_eq_false_iff_eq, x3]
                have HO : Hid (∀ j (h : j < m.length), j < k + 1 → m[j].length = na) := fun j h hj => by
                  by_cases e : j = k
                  · subst e; rw [← HLK.out]; exact x3
                  · exact hno.out j h (by omega)
                clear x3
                go_wp2
                go_region
                all_goals
                  go_wp2
                  exact ⟨⟨k + 1, by omega, rfl, HO, _, rfl⟩, by simp [intOf]; omega⟩
              · have hb : ((lk : Int) != (na : Int)) = true := by rw [bne_iff_ne]; omega
                have HE : Hid (mayB 255 m = false) := by
                  refine decide_eq_false fun h => x3 ?_
                  rw [HLK.out, HNA.out]; exact h.2.2.2.2 _ (List.getElem_mem hlt)
                clear x3
                go_wp2
                go_region
                all_goals
                  go_wp2
                  go_ret
                  exact ⟨by rw [HE.out]; rfl, _, rfl⟩
            · obtain rfl : k = m.length := by omega
              have HE : Hid (mayB 255 m = true) := by
                refine mayB_iff.2 ⟨h1, h2, by rw [← HNA.out]; omega, by rw [← HNA.out]; omega, fun r hr => ?_⟩
                obtain ⟨j, hj, rfl⟩ := List.getElem_of_mem hr
                rw [← HNA.out]; exact hno.out j hj hj
              go_wp2
              go_ret
              exact ⟨by rw [HE.out]; rfl, _, rfl⟩
        · have i5 : decide (255 < (na : Int)) = true := decide_eq_true (by omega)
          have HE : Hid (mayB 255 m = false) := decide_eq_false fun h => h4 (by rw [HNA.out]; exact h.2.2.2.1)
          go_enter Try.func40, Try.ntmps40
          go_wp2
          go_ret
          exact ⟨by rw [HE.out]; rfl, 0, rfl⟩
      · have i4 : decide ((na : Int) < 1) = true := decide_eq_true (by omega)
        have HE : Hid (mayB 255 m = false) := decide_eq_false fun h => h3 (by rw [HNA.out]; exact h.2.2.1)
        go_enter Try.func40, Try.ntmps40
        go_wp2
        go_ret
        exact ⟨by rw [HE.out]; rfl, 0, rfl⟩
    · have HE : Hid (mayB 255 m = false) := decide_eq_false fun h => h2 h.2.1
      have i3 : decide (255 < (m.length : Int)) = true := decide_eq_true (by omega)
      clear ha
      go_enter Try.func40, Try.ntmps40
      go_wp2
      go_ret
      exact ⟨by rw [HE.out]; rfl, 0, rfl⟩
  · have HE : Hid (mayB 255 m = false) := decide_eq_false fun h => h1 h.1
    have i3 : decide ((m.length : Int) < 1) = true := decide_eq_true (by omega)
    clear ha
    go_enter Try.func40, Try.ntmps40
    go_wp2
    go_ret
    exact ⟨by rw [HE.out]; rfl, 0, rfl⟩
end Go.Proofs.Ytojdodbedemkoaa
