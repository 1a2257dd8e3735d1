/- The walk of the law NodeLong. Printed by gennlong.py. -/
import Derived.Test.YtdpfanifagfciaaDoorNodeL
import Derived.Test.YtdpfanifagfciaaDoorNodeS
namespace Go.Proofs.YtdpfanifagfciaaDoor
open Go.RowKit
attribute [local go_sem ↓] Go.wp_at_zero Go.wp_at_succ
set_option maxRecDepth 100000 in
set_option maxHeartbeats 8000000 in
theorem nodelong_any (v : Value) (l : List EntR) (u : Value) (m : List EntR) (w : World) (h : EntsAt w.heap v l) (hw : WeighE l) (hm : EntsAt w.heap u m) (hwm : WeighE m) : Calls Tryd.prog 4 #[v, u] w fun e w' => e = .returned (.bool true) ∧ Keeps w w' := by
  obtain ⟨p, q, rfl⟩ := rec_shape h
  obtain ⟨p2, q2, rfl⟩ := rec_shape hm
  have H := Lib.hid h
  have HW := Lib.hid hw
  have HM := Lib.hid hm
  have HWM := Lib.hid hwm
  clear h hw hm hwm
  have WK : Hid (∀ wx, Keeps w wx → Calls Tryd.prog 18 #[] wx fun e w' => e = .returned (.bool true) ∧ Keeps w w') := fun wx hk => (works_any wx).mono fun e w' ⟨a, b⟩ => ⟨a, hk.trans b⟩
  go_enter Tryd.func4, Tryd.ntmps4
  go_wp2_with fail
  refine Calls.mono (works_any _) ?_
  rintro e w1 ⟨rfl, hk1⟩
  have HK1 := Lib.hid hk1
  clear hk1
  go_wp2_with fail
  refine Calls.mono (large_any _ l _ (EntsAt.keeps H.out HK1.out) HW.out) ?_
  rintro e w2 ⟨rfl, hk2⟩
  have HK2 := Lib.hid (HK1.out.trans hk2)
  clear hk2
  cases hL : largeL l with
  | true =>
    clear hL
    go_wp2_with fail
    refine Calls.mono (WK.out _ HK2.out) ?_
    rintro e w9 ⟨rfl, hk9⟩
    go_wp2_with fail
    go_ret
    exact ⟨rfl, hk9⟩
  | false =>
  have hln0 := (largeL_no hL).1
  have HNU0 := Lib.hid (largeL_num hL)
  have HLN0 := Lib.hid (largeL_no hL)
  clear hL
  go_wp2_with fail
  refine Calls.mono (large_any _ m _ (EntsAt.keeps HM.out HK2.out) HWM.out) ?_
  rintro e w3 ⟨rfl, hk2⟩
  have HK3 := Lib.hid (HK2.out.trans hk2)
  clear hk2
  cases hL : largeL m with
  | true =>
    clear hL
    go_wp2_with fail
    refine Calls.mono (WK.out _ HK3.out) ?_
    rintro e w9 ⟨rfl, hk9⟩
    go_wp2_with fail
    go_ret
    exact ⟨rfl, hk9⟩
  | false =>
  have hln1 := (largeL_no hL).1
  have HNU1 := Lib.hid (largeL_num hL)
  have HLN1 := Lib.hid (largeL_no hL)
  clear hL
  go_wp2_with fail
  refine Calls.mono (given_any _ l _ (EntsAt.keeps H.out HK3.out) HNU0.out) ?_
  rintro e w4 ⟨v4, rfl, h3, hk3⟩
  have HK4 := Lib.hid (HK3.out.trans hk3)
  clear hk3
  go_wp2_with fail
  refine Calls.mono (nmake_any _ l _ h3) ?_
  rintro e w5 ⟨rfl, hk4⟩
  have HK5 := Lib.hid (HK4.out.trans hk4)
  clear hk4 h3
  obtain ⟨S0, e0, hS0⟩ : ∃ (S : ByteArray) (e : Int), makeE l = (S, e) := ⟨_, _, rfl⟩
  have HS0 := Lib.hid hS0
  rw [hS0]
  clear hS0
  go_wp2_with fail
  refine Calls.mono (given_any _ m _ (EntsAt.keeps HM.out HK5.out) HNU1.out) ?_
  rintro e w6 ⟨v6, rfl, h3, hk3⟩
  have HK6 := Lib.hid (HK5.out.trans hk3)
  clear hk3
  go_wp2_with fail
  refine Calls.mono (nmake_any _ m _ h3) ?_
  rintro e w7 ⟨rfl, hk4⟩
  have HK7 := Lib.hid (HK6.out.trans hk4)
  clear hk4 h3
  obtain ⟨S1, e1, hS1⟩ : ∃ (S : ByteArray) (e : Int), makeE m = (S, e) := ⟨_, _, rfl⟩
  have HS1 := Lib.hid hS1
  rw [hS1]
  clear hS1
  have hc0 := makeE_cases l
  have hc1 := makeE_cases m
  rw [HS0.out] at hc0
  rw [HS1.out] at hc1
  rcases hc0 with ⟨ea, _⟩ | ⟨ea, _⟩ | ⟨ea, hma, hba⟩
  · obtain rfl := (Prod.mk.inj ea).1
    obtain rfl := (Prod.mk.inj ea).2
    clear ea HS0
    rcases hc1 with ⟨eb, _⟩ | ⟨eb, _⟩ | ⟨eb, _, _⟩
    · obtain rfl := (Prod.mk.inj eb).1
      obtain rfl := (Prod.mk.inj eb).2
      clear eb HS1
      go_wp2_with fail
      go_ret
      exact ⟨rfl, HK7.out⟩
    · obtain rfl := (Prod.mk.inj eb).1
      obtain rfl := (Prod.mk.inj eb).2
      clear eb HS1
      go_wp2_with fail
      go_ret
      exact ⟨rfl, HK7.out⟩
    · obtain rfl := (Prod.mk.inj eb).2
      clear eb HS1
      go_wp2_with fail
      go_ret
      exact ⟨rfl, HK7.out⟩
  · obtain rfl := (Prod.mk.inj ea).1
    obtain rfl := (Prod.mk.inj ea).2
    clear ea HS0
    rcases hc1 with ⟨eb, _⟩ | ⟨eb, _⟩ | ⟨eb, _, _⟩
    · obtain rfl := (Prod.mk.inj eb).1
      obtain rfl := (Prod.mk.inj eb).2
      clear eb HS1
      go_wp2_with fail
      go_ret
      exact ⟨rfl, HK7.out⟩
    · obtain rfl := (Prod.mk.inj eb).1
      obtain rfl := (Prod.mk.inj eb).2
      clear eb HS1
      go_wp2_with fail
      go_ret
      exact ⟨rfl, HK7.out⟩
    · obtain rfl := (Prod.mk.inj eb).2
      clear eb HS1
      go_wp2_with fail
      go_ret
      exact ⟨rfl, HK7.out⟩
  · rcases hc1 with ⟨eb, _⟩ | ⟨eb, _⟩ | ⟨eb, hmb, hbb⟩
    · obtain rfl := (Prod.mk.inj ea).2
      clear ea HS0 hma hba
      obtain rfl := (Prod.mk.inj eb).1
      obtain rfl := (Prod.mk.inj eb).2
      clear eb HS1
      go_wp2_with fail
      go_ret
      exact ⟨rfl, HK7.out⟩
    · obtain rfl := (Prod.mk.inj ea).2
      clear ea HS0 hma hba
      obtain rfl := (Prod.mk.inj eb).1
      obtain rfl := (Prod.mk.inj eb).2
      clear eb HS1
      go_wp2_with fail
      go_ret
      exact ⟨rfl, HK7.out⟩
    · skip
      have hsa : S0 = strB (makeB l) ∧ S1 = strB (makeB m) := ⟨(Prod.mk.inj ea).1, (Prod.mk.inj eb).1⟩
      obtain rfl : e0 = 0 := (Prod.mk.inj ea).2
      obtain rfl : e1 = 0 := (Prod.mk.inj eb).2
      have HSZ : Hid (S0.size = lenE l l.length) := by
        show _ = _
        rw [hsa.1, strB_size]; exact makeTo_len hma l.length (Nat.le_refl _)
      have HQ : Hid ((S0.toList == S1.toList) = sameE l m) := by
        show _ = _
        rw [txt_eq]
        exact decide_eq_decide.2 ⟨fun e => makeB_inj hma hmb (strB_inj (by rw [← hsa.1, ← hsa.2, e])), fun e => by rw [hsa.1, hsa.2, e]⟩
      clear ea eb hsa hma hmb hba hbb HS0 HS1
      have HLL := Lib.hid (lenE_le HLN0.out.2)
      go_wp2_with fail
      go_loopw [9, 10] (fun n i wr => ∃ k s : Nat, k ≤ l.length ∧ n = .int .i64 (s : Int) ∧ i = .int .i64 k ∧ s ≤ 10000000000 ∧ Hid (s = lenE l k) ∧ Hid (Keeps w wr)) (fun _ i _ => l.length - (intOf i).toNat)
      case atStart => exact ⟨0, 6, by omega, rfl, rfl, by omega, by show _ = _; unfold lenE; simp, HK7⟩
      case round =>
        clear HK7
        obtain ⟨k, s, hk, rfl, rfl, hs, hS, hK⟩ := hrel
        by_cases hlt : k < l.length
        · have hlt65 : (k : Int) < (l.length : Int) := by omega
          have hk0 : (0 : Int) ≤ (k : Int) := by omega
          obtain ⟨b, o, pc, qc, rfl, _, c0, _, _, c3, _, _⟩ := ent_cell (EntsAt.keeps H.out hK.out) hlt
          obtain ⟨z1, z2⟩ := HLN0.out.2 _ (eAt_mem hlt)
          have HS2 : Hid (∀ t : Nat, t = s + 8 + (eAt l k).n.size + 32 * (eAt l k).c.length → t = lenE l (k + 1) ∧ t ≤ 10000000000) := fun t e => by
            have h5 := HLL.out (k + 1) (by omega)
            rw [lenE_succ hlt, ← hS.out] at h5
            refine ⟨by rw [lenE_succ hlt, ← hS.out, e]; omega, by omega⟩
          generalize (eAt l k).c.length = m' at *
          generalize (eAt l k).n = nm at *
          have HT := Lib.hid (HS2.out _ rfl)
          clear HS2
          go_wp2_with fail
          go_quiet (fail)
          go_wp2_with fail
          refine ⟨?_, by simp [intOf]; omega⟩
          first | exact ⟨k + 1, s + 8 + nm.size + 32 * m', by omega, by go_num, by go_num, HT.out.2, HT.out.1, hK⟩ | ((repeat apply Exists.intro); exact ⟨⟨k + 1, s + 8 + nm.size + 32 * m', by omega, by go_num, by go_num, HT.out.2, HT.out.1, hK⟩, rfl⟩)
        · obtain rfl : k = l.length := by omega
          have hz : S0.size = s := by rw [HSZ.out, hS.out]
          have hz1 : (S0.size : Int) = (s : Int) := by omega
          have hz2 : ((S0.size : Int) == (s : Int)) = true := by rw [beq_iff_eq]; exact hz1
          have hz3 : decide ((S0.size : Int) = (s : Int)) = true := decide_eq_true hz1
          have hz4 : (S0.size == s) = true := by rw [beq_iff_eq]; exact hz
          clear hz
          go_wp2_with fail
          refine Calls.mono (rsame19_any _ _ l m _ (EntsAt.keeps H.out hK.out) (EntsAt.keeps HM.out hK.out)) ?_
          rintro e w8 ⟨rfl, hk8⟩
          have HK8 := Lib.hid (hK.out.trans hk8)
          clear hk8
          cases hD : sameE l m with
          | false =>
            have q1 : (S0.toList == S1.toList) = false := by rw [HQ.out, hD]
            clear hD
            go_wp2_with fail
            go_ret
            exact ⟨by first | rfl | simp [q1], HK8.out⟩
          | true =>
            have q1 : (S0.toList == S1.toList) = true := by rw [HQ.out, hD]
            clear hD
            go_wp2_with fail
            go_ret
            exact ⟨by first | rfl | simp [q1], HK8.out⟩
end Go.Proofs.YtdpfanifagfciaaDoor
