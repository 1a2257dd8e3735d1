/- The walk of the law ShaSums. -/
import Derived.Test.YtcapalofocmmoaaRefUnhex
namespace Go.Proofs.Ytcapalofocmmoaa
open Go.RowKit
set_option maxRecDepth 100000 in
set_option maxHeartbeats 4000000 in
theorem ssums_any (s : ByteArray) (w : World) (_ : s.size ≤ maxLen) : Calls Try.prog 4 #[.string s] w fun e w' => e = .returned (.bool true) ∧ Keeps w w' := by
  go_enter Try.func4, Try.ntmps4
  rcases Nat.lt_or_ge 20000 s.size with hbig | hbig
  · have g1 : (20000 : Int) < (s.size : Int) := by omega
    go_wp2_with fail
    go_ret
    exact ⟨rfl, keeps_refl w⟩
  have g1 : (s.size : Int) ≤ 20000 := by omega
  have HA := Lib.hid (fun wx => unhex_any s wx (by omega))
  have HB := Lib.hid (fun wx => refunhex_any s wx (by omega))
  have HC := Lib.hid (fun wx => ssum_any s wx (by omega))
  have HD := Lib.hid (fun wx => refsum_any s wx (by omega))
  have HE := Lib.hid (fun wx => hex_any s wx (by omega))
  have HF := Lib.hid (fun wx => refhex_any s wx (by omega))
  have e1 : (unhexE s.data.toList).2 = 0 ∨ (unhexE s.data.toList).2 = 4 := by
    unfold unhexE; split <;> simp
  generalize (unhexE s.data.toList).1 = x at *
  generalize (unhexE s.data.toList).2 = n at *
  generalize strB (SH.sumB s.data.toList) = y at *
  generalize strB (SH.hexB s.data.toList) = z at *
  have hx : (x.toList == x.toList) = true := by simp
  have hy : (y.toList == y.toList) = true := by simp
  have hz : (z.toList == z.toList) = true := by simp
  have hn : (n == n) = true := by simp
  clear e1
  go_wp2_with fail
  refine Calls.mono (HA.out w) ?_
  rintro e w1 ⟨rfl, hk⟩
  have HK := Lib.hid hk
  clear hk
  go_wp2_with fail
  refine Calls.mono (HB.out w1) ?_
  rintro e w2 ⟨rfl, hk⟩
  have HK := Lib.hid (HK.out.trans hk)
  clear hk
  go_wp2_with fail
  refine Calls.mono (HC.out w2) ?_
  rintro e w3 ⟨rfl, hk⟩
  have HK := Lib.hid (HK.out.trans hk)
  clear hk
  go_wp2_with fail
  refine Calls.mono (HD.out w3) ?_
  rintro e w4 ⟨rfl, hk⟩
  have HK := Lib.hid (HK.out.trans hk)
  clear hk
  go_wp2_with fail
  refine Calls.mono (HE.out w4) ?_
  rintro e w5 ⟨rfl, hk⟩
  have HK := Lib.hid (HK.out.trans hk)
  clear hk
  go_wp2_with fail
  refine Calls.mono (HF.out w5) ?_
  rintro e w6 ⟨rfl, hk⟩
  have HK := Lib.hid (HK.out.trans hk)
  clear hk
  go_wp2_with fail
  go_ret
  exact ⟨rfl, HK.out⟩
end Go.Proofs.Ytcapalofocmmoaa
