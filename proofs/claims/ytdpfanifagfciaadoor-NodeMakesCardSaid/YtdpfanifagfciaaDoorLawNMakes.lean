/- The walk of the law NodeMakes. Printed by gennmk.py. -/
import Derived.Test.YtdpfanifagfciaaDoorNodeC
import Derived.Test.YtdpfanifagfciaaDoorNodeD
namespace Go.Proofs.YtdpfanifagfciaaDoor
open Go.RowKit
attribute [local go_sem ↓] Go.wp_at_zero Go.wp_at_succ
set_option maxRecDepth 100000 in
set_option maxHeartbeats 8000000 in
theorem nodemakes_any (v : Value) (l : List EntR) (u : Value) (m : List EntR) (w : World) (h : EntsAt w.heap v l) (hw : WeighE l) (hm : EntsAt w.heap u m) (hwm : WeighE m) : Calls Tryd.prog 10 #[v, u] w fun e w' => e = .returned (.bool true) ∧ Keeps w w' := by
  obtain ⟨p, q, rfl⟩ := rec_shape h
  obtain ⟨p2, q2, rfl⟩ := rec_shape hm
  have H := Lib.hid h
  have HW := Lib.hid hw
  have HM := Lib.hid hm
  have HWM := Lib.hid hwm
  clear h hw hm hwm
  go_enter Tryd.func10, Tryd.ntmps10
  go_wp2_with fail
  refine Calls.mono (large_any _ l _ H.out HW.out) ?_
  rintro e w1 ⟨rfl, hk1⟩
  have HK1 := Lib.hid hk1
  clear hk1
  cases hL : largeL l with
  | true =>
    clear hL
    go_wp2_with fail
    go_ret
    exact ⟨rfl, HK1.out⟩
  | false =>
  have HNU0 := Lib.hid (largeL_num hL)
  have HLN0 := Lib.hid (largeL_no hL).2
  clear hL
  go_wp2_with fail
  refine Calls.mono (large_any _ m _ (EntsAt.keeps HM.out HK1.out) HWM.out) ?_
  rintro e w2 ⟨rfl, hk2⟩
  have HK2 := Lib.hid (HK1.out.trans hk2)
  clear hk2
  cases hL : largeL m with
  | true =>
    clear hL
    go_wp2_with fail
    go_ret
    exact ⟨rfl, HK2.out⟩
  | false =>
  have HNU1 := Lib.hid (largeL_num hL)
  clear hL
  have HSM : Hid (∀ x ∈ l, x.c.length ≤ 1000000 ∧ x.n.size ≤ 1000000) := fun x hx => by have := HLN0.out x hx; omega
  go_wp2_with fail
  refine Calls.mono (given_any _ l _ (EntsAt.keeps H.out HK2.out) HNU0.out) ?_
  rintro e w3 ⟨v3, rfl, h3, hk3⟩
  have H3 := Lib.hid h3
  have HK3 := Lib.hid (HK2.out.trans hk3)
  obtain ⟨p3, q3, rfl⟩ := rec_shape h3
  clear hk3 h3
  go_wp2_with fail
  refine Calls.mono (nmake_any _ l _ H3.out) ?_
  rintro e w4 ⟨rfl, hk4⟩
  have H4 := Lib.hid (EntsAt.keeps H3.out hk4)
  have HK4 := Lib.hid (HK3.out.trans hk4)
  clear hk4 H3
  have HRK := Lib.hid (fun wx hk => rmake19_any (.slice p l.length q) l wx (EntsAt.keeps H.out hk) HSM.out)
  generalize (makeE l).1 = S at *
  generalize (makeE l).2 = E at *
  go_wp2_with fail
  refine Calls.mono (HRK.out _ HK4.out) ?_
  rintro e w5 ⟨rfl, hk5⟩
  have H5 := Lib.hid (EntsAt.keeps H4.out hk5)
  have HK5 := Lib.hid (HK4.out.trans hk5)
  clear hk5 H4 HRK
  have q0 : (S.toList == S.toList) = true := by simp
  go_wp2_with fail
  refine Calls.mono (taken_any _ l _ H5.out HNU0.out) ?_
  rintro e w6 ⟨v6, rfl, h6, hk6⟩
  have H6 := Lib.hid (EntsAt.keeps H5.out hk6)
  have HK6 := Lib.hid (HK5.out.trans hk6)
  clear hk6 H5
  go_wp2_with fail
  refine Calls.mono (rsame19_any _ _ l l _ h6 (EntsAt.keeps H.out HK6.out)) ?_
  rintro e w7 ⟨rfl, hk7⟩
  have H7 := Lib.hid (EntsAt.keeps H6.out hk7)
  have HK7 := Lib.hid (HK6.out.trans hk7)
  clear hk7 h6 H6
  have HSS : Hid (sameE l l = true) := decide_eq_true rfl
  rw [HSS.out]
  go_wp2_with fail
  refine Calls.mono (nmay_any _ l _ H7.out) ?_
  rintro e w8 ⟨rfl, hk8⟩
  have H8 := Lib.hid (EntsAt.keeps H7.out hk8)
  have HK8 := Lib.hid (HK7.out.trans hk8)
  clear hk8 H7
  have HRM := Lib.hid (fun wx hk => rmay19_any (.slice p l.length q) l wx (EntsAt.keeps H.out hk) HSM.out)
  generalize mayL l = B at *
  go_wp2_with fail
  refine Calls.mono (HRM.out _ HK8.out) ?_
  rintro e w9 ⟨rfl, hk9⟩
  have H9 := Lib.hid (EntsAt.keeps H8.out hk9)
  have HK9 := Lib.hid (HK8.out.trans hk9)
  clear hk9 H8 HRM
  have q1 : (B == B) = true := by simp
  go_wp2_with fail
  refine Calls.mono (given_any _ m _ (EntsAt.keeps HM.out HK9.out) HNU1.out) ?_
  rintro e w10 ⟨v10, rfl, h10, hk10⟩
  have H10 := Lib.hid (EntsAt.keeps H9.out hk10)
  have HK10 := Lib.hid (HK9.out.trans hk10)
  clear hk10 H9
  go_wp2_with fail
  refine Calls.mono (nsame_any _ _ l m _ H10.out h10) ?_
  rintro e w11 ⟨rfl, hk11⟩
  have HK11 := Lib.hid (HK10.out.trans hk11)
  clear hk11 h10 H10
  have HRS := Lib.hid (fun wx hk => rsame19_any (.slice p l.length q) (.slice p2 m.length q2) l m wx (EntsAt.keeps H.out hk) (EntsAt.keeps HM.out hk))
  generalize sameE l m = Z at *
  go_wp2_with fail
  refine Calls.mono (HRS.out _ HK11.out) ?_
  rintro e w12 ⟨rfl, hk12⟩
  have HK12 := Lib.hid (HK11.out.trans hk12)
  clear hk12
  have q2 : (Z == Z) = true := by simp
  go_wp2_with fail
  go_ret
  exact ⟨by first | rfl | simp, HK12.out⟩
end Go.Proofs.YtdpfanifagfciaaDoor
