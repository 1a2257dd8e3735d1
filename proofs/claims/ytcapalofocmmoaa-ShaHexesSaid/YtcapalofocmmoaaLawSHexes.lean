/- The walk of the law ShaHexes. -/
import Derived.Test.YtcapalofocmmoaaSWorks
namespace Go.Proofs.Ytcapalofocmmoaa
open Go.RowKit
theorem app_data (a b : ByteArray) : (a ++ b).data.toList = a.data.toList ++ b.data.toList := by rw [ByteArray.data_append, Array.toList_append]
set_option maxRecDepth 100000 in
set_option maxHeartbeats 4000000 in
theorem shexes_any (a b c d : ByteArray) (w : World) (ha : a.size ≤ 140737488351232) (hb : b.size ≤ 140737488351232) (hc : c.size ≤ 140737488351232) (hd : d.size ≤ 140737488351232) : Calls Try.prog 5 #[.string a, .string b, .string c, .string d] w fun e w' => e = .returned (.bool true) ∧ Keeps w w' := by
  go_enter Try.func5, Try.ntmps5
  go_wp2_with fail
  refine Calls.mono (sworks_any w) ?_
  rintro e w1 ⟨rfl, hk⟩
  have HK := Lib.hid hk
  clear hk
  rcases Nat.lt_or_ge 40000 (a.size + b.size + c.size + d.size) with hbig | hbig
  · have g1 : (40000 : Int) < (a.size : Int) + (b.size : Int) + (c.size : Int) + (d.size : Int) := by omega
    have g2 : decide ((40000 : Int) < (a.size : Int) + (b.size : Int) + (c.size : Int) + (d.size : Int)) = true := decide_eq_true g1
    go_wp2_with fail
    refine Calls.mono (sworks_any w1) ?_
    rintro e w2 ⟨rfl, hk⟩
    have HK := Lib.hid (HK.out.trans hk)
    clear hk
    go_wp2_with fail
    go_ret
    exact ⟨rfl, HK.out⟩
  have g1 : (a.size : Int) + (b.size : Int) + (c.size : Int) + (d.size : Int) ≤ 40000 := by omega
  have g2 : decide ((40000 : Int) < (a.size : Int) + (b.size : Int) + (c.size : Int) + (d.size : Int)) = false := decide_eq_false (by omega)
  clear hbig
  obtain ⟨xa, hxa⟩ : ∃ xa, xa = strB (SH.hexB a.data.toList) := ⟨_, rfl⟩
  obtain ⟨xb, hxb⟩ : ∃ xb, xb = strB (SH.hexB b.data.toList) := ⟨_, rfl⟩
  have HA : Hid (∀ wx : World, Calls Try.prog 24 #[.string a] wx fun e w' => e = .returned (.string xa) ∧ Keeps wx w') := fun wx => by
    rw [hxa]; exact hex_any a wx (by omega)
  have HB : Hid (∀ wx : World, Calls Try.prog 24 #[.string b] wx fun e w' => e = .returned (.string xb) ∧ Keeps wx w') := fun wx => by
    rw [hxb]; exact hex_any b wx (by omega)
  have HAB : Hid (∀ wx : World, Calls Try.prog 24 #[.string (a ++ b)] wx fun e w' => e = .returned (.string (xa ++ xb)) ∧ Keeps wx w') := fun wx => by
    rw [hxa, hxb, strB_append, ← SH.hexB_append, ← app_data]; exact hex_any (a ++ b) wx (by rw [ByteArray.size_append]; omega)
  have HXS : Hid (xa.size = 2 * a.size) := by
    show _ = _
    rw [hxa, strB_size, SH.hexB_length, data_size]
  have sxa : xa.size ≤ 80000 := by have := HXS.out; omega
  have sxb : xb.size ≤ 80000 := by rw [hxb, strB_size, SH.hexB_length, data_size]; omega
  clear hxa hxb
  go_wp2_with fail
  refine Calls.mono (HAB.out _) ?_
  rintro e w2 ⟨rfl, hk⟩
  have HK := Lib.hid (HK.out.trans hk)
  clear hk
  go_wp2_with fail
  refine Calls.mono (HA.out _) ?_
  rintro e w3 ⟨rfl, hk⟩
  have HK := Lib.hid (HK.out.trans hk)
  clear hk
  go_wp2_with fail
  refine Calls.mono (HB.out _) ?_
  rintro e w4 ⟨rfl, hk⟩
  have HK := Lib.hid (HK.out.trans hk)
  clear hk
  have hab : ((xa ++ xb).toList == (xa ++ xb).toList) = true := by simp
  go_wp2_with fail
  refine Calls.mono (HA.out _) ?_
  rintro e w5 ⟨rfl, hk⟩
  have HK := Lib.hid (HK.out.trans hk)
  clear hk
  have hz : (xa.size : Int) = 2 * (a.size : Int) := by have := HXS.out; omega
  have hz2 : xa.size = 2 * a.size := HXS.out
  rcases Nat.mod_two_eq_zero_or_one c.size with pc | pc
  case inr =>
    have m1 : (c.size : Int) % 2 = 1 := by omega
    have m2 : (c.size : Int).tmod 2 = 1 := by rw [Int.tmod_eq_emod_of_nonneg (by omega)]; exact m1
    have HU : Hid (unhexE c.data.toList = (⟨#[]⟩, 4)) := by
      show _ = _
      unfold unhexE SH.unhexB
      rw [if_pos (by rw [data_size]; exact pc)]
    clear pc
    go_wp2_with fail
    refine Calls.mono (unhex_e c w5 (by omega) HU.out) ?_
    rintro e w6 ⟨rfl, hk⟩
    have HK := Lib.hid (HK.out.trans hk)
    clear hk
    go_wp2_with fail
    go_ret
    exact ⟨rfl, HK.out⟩
  have m1 : (c.size : Int) % 2 = 0 := by omega
  have m2 : (c.size : Int).tmod 2 = 0 := by rw [Int.tmod_eq_emod_of_nonneg (by omega)]; exact m1
  rcases Nat.mod_two_eq_zero_or_one d.size with pd | pd
  case inr =>
    have m3 : (d.size : Int) % 2 = 1 := by omega
    have m4 : (d.size : Int).tmod 2 = 1 := by rw [Int.tmod_eq_emod_of_nonneg (by omega)]; exact m3
    clear pc pd
    obtain ⟨xc, nc, HU⟩ : ∃ xc nc, Hid (unhexE c.data.toList = (xc, nc)) := ⟨_, _, rfl⟩
    go_wp2_with fail
    refine Calls.mono (unhex_e c w5 (by omega) HU.out) ?_
    rintro e w6 ⟨rfl, hk⟩
    have HK := Lib.hid (HK.out.trans hk)
    clear hk
    go_wp2_with fail
    go_ret
    exact ⟨rfl, HK.out⟩
  have m3 : (d.size : Int) % 2 = 0 := by omega
  have m4 : (d.size : Int).tmod 2 = 0 := by rw [Int.tmod_eq_emod_of_nonneg (by omega)]; exact m3
  have HCD := Lib.hid (SH.unhexB_append (c := c.data.toList) (d := d.data.toList) (by rw [data_size]; exact pc) (by rw [data_size]; exact pd))
  have HS : Hid ((c ++ d).size ≤ 1000000) := by show _ ≤ _; rw [ByteArray.size_append]; omega
  have hcs : c.size ≤ 1000000 := by omega
  have hds : d.size ≤ 1000000 := by omega
  clear pc pd
  have he0 : ((⟨#[]⟩ : ByteArray).toList == []) = true := by rw [toList_eq]; decide
  cases hc1 : SH.unhexB c.data.toList with
  | none =>
    have HUC : Hid (unhexE c.data.toList = (⟨#[]⟩, 4)) := by show _ = _; unfold unhexE; rw [hc1]
    obtain ⟨xd, nd, HUD⟩ : ∃ xd nd, Hid (unhexE d.data.toList = (xd, nd)) := ⟨_, _, rfl⟩
    have HUZ : Hid (unhexE (c ++ d).data.toList = (⟨#[]⟩, 4)) := by show _ = _; unfold unhexE; rw [app_data, HCD.out, hc1]
    clear hc1 HCD
    go_wp2_with fail
    refine Calls.mono (unhex_e c w5 (by omega) HUC.out) ?_
    rintro e w6 ⟨rfl, hk⟩
    have HK := Lib.hid (HK.out.trans hk)
    clear hk
    go_wp2_with fail
    refine Calls.mono (unhex_e d w6 (by omega) HUD.out) ?_
    rintro e w7 ⟨rfl, hk⟩
    have HK := Lib.hid (HK.out.trans hk)
    clear hk
    go_wp2_with fail
    refine Calls.mono (unhex_e (c ++ d) w7 HS.out HUZ.out) ?_
    rintro e w8 ⟨rfl, hk⟩
    have HK := Lib.hid (HK.out.trans hk)
    clear hk
    go_wp2_with fail
    go_ret
    exact ⟨rfl, HK.out⟩
  | some rc =>
    have HUC : Hid (unhexE c.data.toList = (strB rc, 0)) := by show _ = _; unfold unhexE; rw [hc1]
    cases hd1 : SH.unhexB d.data.toList with
    | none =>
      have HUD : Hid (unhexE d.data.toList = (⟨#[]⟩, 4)) := by show _ = _; unfold unhexE; rw [hd1]
      have HUZ : Hid (unhexE (c ++ d).data.toList = (⟨#[]⟩, 4)) := by show _ = _; unfold unhexE; rw [app_data, HCD.out, hc1, hd1]
      clear hc1 hd1 HCD
      go_wp2_with fail
      refine Calls.mono (unhex_e c w5 (by omega) HUC.out) ?_
      rintro e w6 ⟨rfl, hk⟩
      have HK := Lib.hid (HK.out.trans hk)
      clear hk
      go_wp2_with fail
      refine Calls.mono (unhex_e d w6 (by omega) HUD.out) ?_
      rintro e w7 ⟨rfl, hk⟩
      have HK := Lib.hid (HK.out.trans hk)
      clear hk
      go_wp2_with fail
      refine Calls.mono (unhex_e (c ++ d) w7 HS.out HUZ.out) ?_
      rintro e w8 ⟨rfl, hk⟩
      have HK := Lib.hid (HK.out.trans hk)
      clear hk
      go_wp2_with fail
      go_ret
      exact ⟨rfl, HK.out⟩
    | some rd =>
      have HUD : Hid (unhexE d.data.toList = (strB rd, 0)) := by show _ = _; unfold unhexE; rw [hd1]
      have HUZ : Hid (unhexE (c ++ d).data.toList = (strB rc ++ strB rd, 0)) := by show _ = _; unfold unhexE; rw [app_data, HCD.out, hc1, hd1, strB_append]
      have src : (strB rc).size ≤ 40000 := by have := SH.unhexB_length hc1; rw [data_size] at this; rw [strB_size]; omega
      have srd : (strB rd).size ≤ 40000 := by have := SH.unhexB_length hd1; rw [data_size] at this; rw [strB_size]; omega
      generalize strB rc = yc at *
      generalize strB rd = yd at *
      have hzz : ((yc ++ yd).toList == (yc ++ yd).toList) = true := by simp
      clear hc1 hd1 HCD
      go_wp2_with fail
      refine Calls.mono (unhex_e c w5 (by omega) HUC.out) ?_
      rintro e w6 ⟨rfl, hk⟩
      have HK := Lib.hid (HK.out.trans hk)
      clear hk
      go_wp2_with fail
      refine Calls.mono (unhex_e d w6 (by omega) HUD.out) ?_
      rintro e w7 ⟨rfl, hk⟩
      have HK := Lib.hid (HK.out.trans hk)
      clear hk
      go_wp2_with fail
      refine Calls.mono (unhex_e (c ++ d) w7 HS.out HUZ.out) ?_
      rintro e w8 ⟨rfl, hk⟩
      have HK := Lib.hid (HK.out.trans hk)
      clear hk
      go_wp2_with fail
      go_ret
      exact ⟨rfl, HK.out⟩
end Go.Proofs.Ytcapalofocmmoaa
