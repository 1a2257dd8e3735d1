/- The walk of an entry's may. -/
import Derived.Test.YtdpfanifagfciaaDoorNode1
namespace Go.Proofs.YtdpfanifagfciaaDoor
open Go.RowKit
attribute [local go_sem ↓] Go.wp_at_zero Go.wp_at_succ
set_option maxRecDepth 100000 in
set_option maxHeartbeats 8000000 in
theorem emay_any (n : ByteArray) (d : Bool) (z : Int) (p : Option Addr) (q : Nat) (c : List ByteArray) (w : World) (h : SeqAt IsText w.heap (.slice p c.length q) c) :
    Calls Tryd.prog 55 #[.agg #[.string n, .bool d, .int .i64 z, .slice p c.length q]] w fun e w' => e = .returned (.bool (mayE ⟨n, d, z, c⟩)) ∧ Keeps w w' := by
  have H := Lib.hid h
  have HL : Hid (c.length ≤ 9223372036854775807) := let ⟨_, _, _, x, _⟩ := h; x
  have HE : Hid (mayE ⟨n, d, z, c⟩ = (!(!mayPath n.data.toList || hasS n || c.any oddC) && (if d then decide (z = 0) && decide (c.length = 1) else decide (0 ≤ z) && decide (z ≤ 16384) && decide ((c.length : Int) ≤ z) && decide (z ≤ 1024 * (c.length : Int))))) := rfl
  clear h
  generalize mayE ⟨n, d, z, c⟩ = b at *
  have HMY := Lib.hid (fun wx => may_any n wx)
  have HCN := Lib.hid (fun wx => Sh.strings_Contains_one n 47 wx)
  have HS0 : Hid (decide (0 ≤ Lib.indexByte n.data.toList 47) = hasS n) := rfl
  rw [HS0.out] at HCN
  have HOD := Lib.hid (fun wx hh => hasodd_any (.slice p c.length q) c wx hh)
  generalize mayPath n.data.toList = my at *
  generalize hasS n = hs at *
  generalize c.any oddC = od at *
  go_enter Tryd.func55, Tryd.ntmps55
  go_wp2_with fail
  refine Calls.mono (HMY.out _) ?_
  rintro e w2 ⟨rfl, hk2⟩
  have c0 := keeps_cell hk2 (show (w.alloc (.cells #[.string n, .bool d, .int .i64 z, .slice p c.length q] 33)).cell? ⟨w.heap.size, 0, none⟩ = some (.string n) from World.cell?_alloc_new _ _ _ _)
  have c1 := keeps_cell hk2 (show (w.alloc (.cells #[.string n, .bool d, .int .i64 z, .slice p c.length q] 33)).cell? ⟨w.heap.size, 1, none⟩ = some (.bool d) from World.cell?_alloc_new _ _ _ _)
  have c2 := keeps_cell hk2 (show (w.alloc (.cells #[.string n, .bool d, .int .i64 z, .slice p c.length q] 33)).cell? ⟨w.heap.size, 2, none⟩ = some (.int .i64 z) from World.cell?_alloc_new _ _ _ _)
  have c3 := keeps_cell hk2 (show (w.alloc (.cells #[.string n, .bool d, .int .i64 z, .slice p c.length q] 33)).cell? ⟨w.heap.size, 3, none⟩ = some (.slice p c.length q) from World.cell?_alloc_new _ _ _ _)
  have HK2 : Hid (Keeps w w2) := Keeps.trans (kal _ _) hk2
  clear hk2 HMY
  cases my with
  | false =>
    have HB : Hid (b = false) := by show _ = _; rw [HE.out]; rfl
    go_wp2_with fail
    go_ret
    exact ⟨by rw [HB.out]; rfl, HK2.out⟩
  | true =>
  go_wp2_with fail
  refine Calls.mono (HCN.out _) ?_
  rintro e w2b ⟨rfl, hwb⟩
  rw [hwb]
  clear hwb HCN
  cases hs with
  | true =>
    have HB : Hid (b = false) := by show _ = _; rw [HE.out]; rfl
    go_wp2_with fail
    go_ret
    exact ⟨by rw [HB.out]; rfl, HK2.out⟩
  | false =>
  go_wp2_with fail
  refine Calls.mono (HOD.out _ (SeqAt.keeps H.out HK2.out)) ?_
  rintro e w3 ⟨rfl, hk3⟩
  replace c0 := keeps_cell hk3 c0
  replace c1 := keeps_cell hk3 c1
  replace c2 := keeps_cell hk3 c2
  replace c3 := keeps_cell hk3 c3
  have HK3 := Lib.hid (HK2.out.trans hk3)
  clear hk3 HOD HK2
  cases od with
  | true =>
    have HB : Hid (b = false) := by show _ = _; rw [HE.out]; rfl
    go_wp2_with fail
    go_ret
    exact ⟨by rw [HB.out]; rfl, HK3.out⟩
  | false =>
  have HL2 := HL.out
  generalize c.length = m at *
  cases d with
  | true =>
    have HE2 : Hid (b = (decide (z = 0) && decide (m = 1))) := HE.out
    by_cases hz : z = 0
    · by_cases hm : m = 1
      · have HB : Hid (b = true) := by show _ = _; rw [HE2.out, decide_eq_true hz, decide_eq_true hm]; rfl
        subst hz hm
        go_wp2_with fail
        go_ret
        exact ⟨by rw [HB.out]; rfl, HK3.out⟩
      · have HB : Hid (b = false) := by show _ = _; rw [HE2.out, decide_eq_false hm]; simp
        have g1 : ((m : Int) == 1) = false := beq_false_of_ne (by omega)
        have g2 : decide ((m : Int) = 1) = false := decide_eq_false (by omega)
        subst hz
        go_wp2_with fail
        go_ret
        exact ⟨by rw [HB.out]; rfl, HK3.out⟩
    · have HB : Hid (b = false) := by show _ = _; rw [HE2.out, decide_eq_false hz]; rfl
      have g1 : (z == 0) = false := beq_false_of_ne hz
      have g2 : decide (z = 0) = false := decide_eq_false hz
      clear hz
      go_wp2_with fail
      go_ret
      exact ⟨by rw [HB.out]; rfl, HK3.out⟩
  | false =>
    have HE2 : Hid (b = (decide (0 ≤ z) && decide (z ≤ 16384) && decide ((m : Int) ≤ z) && decide (z ≤ 1024 * (m : Int)))) := HE.out
    by_cases h1 : 0 ≤ z
    · have g1 : decide (0 ≤ z) = true := decide_eq_true h1
      by_cases h2 : z ≤ 16384
      · have g2 : decide (z ≤ 16384) = true := decide_eq_true h2
        by_cases h3 : (m : Int) ≤ z
        · have g3 : decide ((m : Int) ≤ z) = true := decide_eq_true h3
          have x1 : IntKind.i64.wrap (1024 * (m : Int)) = 1024 * (m : Int) := IntWalk.i64_in _ (by omega)
          by_cases h4 : z ≤ 1024 * (m : Int)
          · have g4 : decide (z ≤ 1024 * (m : Int)) = true := decide_eq_true h4
            have HB : Hid (b = true) := by show _ = _; rw [HE2.out, g1, g2, g3, g4]; rfl
            clear HE HE2
            go_wp2_with fail
            go_ret
            exact ⟨by rw [HB.out]; rfl, HK3.out⟩
          · have g4 : decide (z ≤ 1024 * (m : Int)) = false := decide_eq_false h4
            have HB : Hid (b = false) := by show _ = _; rw [HE2.out, g4]; simp
            clear HE HE2 h4
            go_wp2_with fail
            go_ret
            exact ⟨by rw [HB.out]; rfl, HK3.out⟩
        · have g3 : decide ((m : Int) ≤ z) = false := decide_eq_false h3
          have HB : Hid (b = false) := by show _ = _; rw [HE2.out, g3]; simp
          clear HE HE2 h3
          go_wp2_with fail
          go_ret
          exact ⟨by rw [HB.out]; rfl, HK3.out⟩
      · have g2 : decide (z ≤ 16384) = false := decide_eq_false h2
        have HB : Hid (b = false) := by show _ = _; rw [HE2.out, g2]; simp
        clear HE HE2 h2
        go_wp2_with fail
        go_ret
        exact ⟨by rw [HB.out]; rfl, HK3.out⟩
    · have g1 : decide (0 ≤ z) = false := decide_eq_false h1
      have HB : Hid (b = false) := by show _ = _; rw [HE2.out, g1]; rfl
      clear HE HE2 h1
      go_wp2_with fail
      go_ret
      exact ⟨by rw [HB.out]; rfl, HK3.out⟩
end Go.Proofs.YtdpfanifagfciaaDoor
