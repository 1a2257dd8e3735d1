/- The walks of matrix.Same, slices.EqualFunc, slices.Equal; of strongboxref03.May. -/
import Derived.Test.YtojdodbedemkoaaMatMay
import Derived.Test.YtojdodbedemkoaaRef03
namespace Go.Proofs.Ytojdodbedemkoaa
open Go.RowKit

theorem byte_eq (x y : UInt8) : (((x.toNat : Nat) : Int) != ((y.toNat : Nat) : Int)) = !decide (x = y) := by
  by_cases h : x = y
  · subst h; simp
  · rw [decide_eq_false h]
    have : x.toNat ≠ y.toNat := fun e => h (UInt8.toNat_inj.1 e)
    simp; omega

set_option maxRecDepth 100000 in
set_option maxHeartbeats 1000000 in
theorem equal_any (va vb : Value) (r s : List UInt8) (w : World) (ha : RowAt w.heap va r) (hb : RowAt w.heap vb s) :
    Calls Try.prog 67 #[va, vb] w fun e w' => e = .returned (.bool (decide (r = s))) ∧ ∃ n, w' = w.drewN n := by
  obtain ⟨a, ca, rfl, hla, hea⟩ := ha
  obtain ⟨b, cb, rfl, hlb, heb⟩ := hb
  by_cases hl : r.length = s.length
  · have HEA := Lib.hid hea
    have HEB := Lib.hid heb
    have HL := Lib.hid hl
    have hl2 : (((r.length : Nat) : Int) != ((s.length : Nat) : Int)) = false := by rw [bne_eq_false_iff_eq, hl]
    clear hea heb hl
    go_enter Try.func67, Try.ntmps67
    go_wp2
    clear hl2
    go_loopw [13] (fun i wr => ∃ k : Nat, k ≤ r.length ∧ i = .int .i64 k ∧ Hid (∀ j (h : j < r.length) (h' : j < s.length), j < k → r[j] = s[j]) ∧ ∃ n, wr = w.drewN n) (fun i _ => r.length - (intOf i).toNat)
    case atStart => exact ⟨0, by omega, rfl, fun j _ _ h => by omega, 0, rfl⟩
    case round =>
      obtain ⟨k, hk, rfl, hno, n0, rfl⟩ := hrel
      by_cases hlt : k < r.length
      · have hlt' : k < s.length := by have := HL.out; omega
        obtain ⟨ba, oa, ua, ea, c1, r1⟩ := HEA.out k hlt
        obtain ⟨bb, ob, ub, eb, c2, r2⟩ := HEB.out k hlt'
        subst ea
        subst eb
        rw [r1] at c1
        rw [r2] at c2
        rw [← cell_of] at c1 c2
        have hbe := byte_eq r[k] s[k]
        by_cases he : r[k] = s[k]
        · rw [decide_eq_true he] at hbe
          have HE : Hid (∀ (h : k < r.length) (h' : k < s.length), r[k] = s[k]) := fun _ _ => he
          clear he r1 r2
          generalize r[k] = x at *
          generalize s[k] = y at *
          go_wp2
          go_region
          all_goals
            go_wp2
            refine ⟨⟨k + 1, by omega, rfl, fun j h h' hj => ?_, _, rfl⟩, by simp [intOf]; omega⟩
            by_cases e : j = k
            · subst e; exact HE.out h h'
            · exact hno.out j h h' (by omega)
        · rw [decide_eq_false he] at hbe
          have HE : Hid (decide (r = s) = false) := decide_eq_false fun h => he (by subst h; rfl)
          clear he r1 r2
          generalize r[k] = x at *
          generalize s[k] = y at *
          go_wp2
          go_region
          all_goals
            go_wp2
            go_ret
            exact ⟨by rw [HE.out]; rfl, _, rfl⟩
      · obtain rfl : k = r.length := by omega
        have HE : Hid (decide (r = s) = true) := decide_eq_true (List.ext_getElem HL.out fun j h1 h2 => hno.out j h1 h2 h1)
        go_wp2
        go_ret
        exact ⟨by rw [HE.out]; rfl, _, rfl⟩
  · have HE : Hid (decide (r = s) = false) := decide_eq_false fun h => hl (by rw [h])
    have hl2 : (((r.length : Nat) : Int) != ((s.length : Nat) : Int)) = true := by rw [bne_iff_ne]; omega
    clear hl
    go_enter Try.func67, Try.ntmps67
    go_wp2
    go_ret
    exact ⟨by rw [HE.out]; rfl, 0, rfl⟩
theorem enters_equal (xs : Array Value) (w : World) : (callFunc 67 xs).run Try.prog w = .ok (.enter 67 xs) w := enters_body Try.func67 (by kernel_rfl) rfl xs w

set_option maxRecDepth 100000 in
set_option maxHeartbeats 1000000 in
theorem equalfunc_any (va vb : Value) (ma mb : List (List UInt8)) (w : World) (ha : MatAt w.heap va ma) (hb : MatAt w.heap vb mb) :
    Calls Try.prog 66 #[va, vb, .func (.func 67) #[] #[]] w fun e w' => e = .returned (.bool (decide (ma = mb))) ∧ ∃ n, w' = w.drewN n := by
  have hcf := enters_equal
  obtain ⟨a, ca, rfl, hla, hea⟩ := ha
  obtain ⟨b, cb, rfl, hlb, heb⟩ := hb
  by_cases hl : ma.length = mb.length
  · have HEA := Lib.hid hea
    have HEB := Lib.hid heb
    have HL := Lib.hid hl
    have hl2 : (((ma.length : Nat) : Int) != ((mb.length : Nat) : Int)) = false := by rw [bne_eq_false_iff_eq, hl]
    clear hea heb hl
    go_enter Try.func66, Try.ntmps66
    go_wp2
    clear hl2
    go_loopw [17] (fun i wr => ∃ k : Nat, k ≤ ma.length ∧ i = .int .i64 k ∧ Hid (∀ j (h : j < ma.length) (h' : j < mb.length), j < k → ma[j] = mb[j]) ∧ ∃ n, wr = w.drewN n) (fun i _ => ma.length - (intOf i).toNat)
    case atStart => exact ⟨0, by omega, rfl, fun j _ _ h => by omega, 0, rfl⟩
    case round =>
      obtain ⟨k, hk, rfl, hno, n0, rfl⟩ := hrel
      by_cases hlt : k < ma.length
      · have hlt' : k < mb.length := by have := HL.out; omega
        obtain ⟨ba, oa, ua, ea, c1, r1⟩ := HEA.out k hlt
        obtain ⟨bb, ob, ub, eb, c2, r2⟩ := HEB.out k hlt'
        subst ea
        subst eb
        rw [← cell_of] at c1 c2
        go_wp2_with fail
        refine Calls.mono (equal_any _ _ _ _ (w.drewN n0) r1 r2) ?_
        rintro e w1 ⟨rfl, n1, rfl⟩
        by_cases he : ma[k] = mb[k]
        · rw [decide_eq_true he]
          have HE := Lib.hid he
          clear he r1 r2
          go_wp2
          refine ⟨⟨k + 1, by omega, rfl, fun j h h' hj => ?_, _, rfl⟩, by simp [intOf]; omega⟩
          by_cases e : j = k
          · subst e; exact HE.out
          · exact hno.out j h h' (by omega)
        · rw [decide_eq_false he]
          have HE : Hid (decide (ma = mb) = false) := decide_eq_false fun h => he (by subst h; rfl)
          clear he r1 r2
          go_wp2
          go_ret
          exact ⟨by rw [HE.out]; rfl, _, rfl⟩
      · obtain rfl : k = ma.length := by omega
        have HE : Hid (decide (ma = mb) = true) := decide_eq_true (List.ext_getElem HL.out fun j h1 h2 => hno.out j h1 h2 h1)
        go_wp2
        go_ret
        exact ⟨by rw [HE.out]; rfl, _, rfl⟩
  · have HE : Hid (decide (ma = mb) = false) := decide_eq_false fun h => hl (by rw [h])
    have hl2 : (((ma.length : Nat) : Int) != ((mb.length : Nat) : Int)) = true := by rw [bne_iff_ne]; omega
    clear hl
    go_enter Try.func66, Try.ntmps66
    go_wp2
    go_ret
    exact ⟨by rw [HE.out]; rfl, 0, rfl⟩

set_option maxHeartbeats 1000000 in
theorem matsame_any (va vb : Value) (ma mb : List (List UInt8)) (w : World) (ha : MatAt w.heap va ma) (hb : MatAt w.heap vb mb) :
    Calls Try.prog 32 #[va, vb] w fun e w' => e = .returned (.bool (decide (ma = mb))) ∧ ∃ n, w' = w.drewN n := by
  have HA := Lib.hid ha
  have HB := Lib.hid hb
  clear ha hb
  go_enter Try.func32, Try.ntmps32
  go_wp2_with fail
  refine Calls.mono (equalfunc_any _ _ _ _ _ HA.out HB.out) ?_
  rintro e w1 ⟨rfl, n, rfl⟩
  go_wp2
  go_ret
  exact ⟨rfl, n, rfl⟩
end Go.Proofs.Ytojdodbedemkoaa
