/- The walk of path.step. -/
import Derived.Test.YtdpfanifagfciaaDoorPathStep
import Derived.Test.YtdpfanifagfciaaDoorConv
namespace Go.Proofs.YtdpfanifagfciaaDoor
open Go.RowKit
/-- Is a text a step? -/
def stepB (s : ByteArray) : Bool := if (s.toList == []) || decide (32 < s.size) || (s.toList == [46]) || (s.toList == [46, 46]) then false else !(s.data.toList.any oddB)
set_option maxRecDepth 100000 in
set_option maxHeartbeats 1000000 in
theorem step_any (s : ByteArray) (w : World) : Calls Tryd.prog 57 #[.string s] w fun e w' => e = .returned (.bool (stepB s)) ∧ Keeps w w' := by
  have HS : Hid (stepB s = if (s.toList == []) || decide (32 < s.size) || (s.toList == [46]) || (s.toList == [46, 46]) then false else !(s.data.toList.any oddB)) := rfl
  generalize stepB s = b at *
  go_enter Tryd.func57, Tryd.ntmps57
  cases h1 : (s.toList == []) with
  | true =>
    have HE : Hid (b = false) := by show _ = _; rw [HS.out, h1]; rfl
    go_wp2
    go_ret
    exact ⟨by rw [HE.out]; rfl, keeps_refl _⟩
  | false =>
    by_cases h2 : 32 < s.size
    · have HE : Hid (b = false) := by show _ = _; rw [HS.out, h1, decide_eq_true h2]; rfl
      have h64 : (32 : Int) < (s.size : Int) := by omega
      go_wp2
      go_ret
      exact ⟨by rw [HE.out]; rfl, keeps_refl _⟩
    · have h64 : ¬ (32 : Int) < (s.size : Int) := by omega
      cases h3 : (s.toList == [46]) with
      | true =>
        have HE : Hid (b = false) := by show _ = _; rw [HS.out, h1, decide_eq_false h2, h3]; rfl
        go_wp2
        go_ret
        exact ⟨by rw [HE.out]; rfl, keeps_refl _⟩
      | false =>
        cases h4 : (s.toList == [46, 46]) with
        | true =>
          have HE : Hid (b = false) := by show _ = _; rw [HS.out, h1, decide_eq_false h2, h3, h4]; rfl
          go_wp2
          go_ret
          exact ⟨by rw [HE.out]; rfl, keeps_refl _⟩
        | false =>
          have HE : Hid (b = !(s.data.toList.any oddB)) := by show _ = _; rw [HS.out, h1, decide_eq_false h2, h3, h4]; rfl
          go_wp2_with (first | (refine wp_bytes rfl 9 45 (.tmp 18) rfl s rfl Tryd.underlying9 Tryd.underlying45 Tryd.underlying5 (by omega) ?_; intro c w4 hc hrow hk4; have HROW := Lib.hid (SeqIn.at_ hrow); have HK4 := Lib.hid hk4; clear hrow hk4))
          refine Calls.mono (contf_any _ _ _ HROW.out) ?_
          rintro e w5 ⟨rfl, m, rfl⟩
          have HK5 : Hid (Keeps w (w4.drewN m)) := HK4.out
          generalize s.data.toList.any oddB = y at *
          go_wp2
          go_ret
          exact ⟨by rw [HE.out]; rfl, HK5.out⟩
end Go.Proofs.YtdpfanifagfciaaDoor
