/- The walk of the law ShaPieces. -/
import Derived.Test.YtcapalofocmmoaaSWorks
import Derived.Test.YtcapalofocmmoaaShaLen
import Derived.Test.YtcapalofocmmoaaStrCut
namespace Go.Proofs.Ytcapalofocmmoaa
open Go.RowKit
theorem chg_new {w w' : World} {b : Nat} (c : Chg (fun x => x = b) w w') {w0 : World} (k : Keeps w0 w) (hb : w0.heap.size ≤ b) : Keeps w0 w' :=
  ((Kept.any (T := fun x => x = b) k).trans c).keeps fun x h1 h2 => by omega
set_option maxRecDepth 100000 in
set_option maxHeartbeats 4000000 in
theorem spieces_any (s : ByteArray) (v : Value) (l : List Int) (w : World) (hs : s.size ≤ maxLen) (hl : SeqAt IsInt w.heap v l) : Calls Try.prog 7 #[.string s, v] w fun e w' => e = .returned (.bool true) ∧ Keeps w w' := by
  obtain ⟨pv, qv, rfl⟩ := seq_shape hl
  have hl63 : l.length ≤ 9223372036854775807 := let ⟨_, _, _, x, _⟩ := hl; x
  have HL := Lib.hid hl
  clear hl
  go_enter Try.func7, Try.ntmps7
  go_wp2_with fail
  refine Calls.mono (sworks_any w) ?_
  rintro e w1 ⟨rfl, hk⟩
  have HK := Lib.hid hk
  clear hk
  rcases Nat.lt_or_ge 20000 s.size with hbig | hbig
  · have g1 : (20000 : Int) < (s.size : Int) := by omega
    have g2 : decide ((20000 : Int) < (s.size : Int)) = true := decide_eq_true g1
    go_wp2_with fail
    refine Calls.mono (sworks_any w1) ?_
    rintro e w2 ⟨rfl, hk⟩
    have HK := Lib.hid (HK.out.trans hk)
    clear hk
    go_wp2_with fail
    go_ret
    exact ⟨rfl, HK.out⟩
  have g1 : (s.size : Int) ≤ 20000 := by omega
  have g2 : decide ((20000 : Int) < (s.size : Int)) = false := decide_eq_false (by omega)
  rcases Nat.lt_or_ge 200 l.length with hbig2 | hbig2
  · have g3 : (200 : Int) < (l.length : Int) := by omega
    have g4 : decide ((200 : Int) < (l.length : Int)) = true := decide_eq_true g3
    go_wp2_with fail
    refine Calls.mono (sworks_any w1) ?_
    rintro e w2 ⟨rfl, hk⟩
    have HK := Lib.hid (HK.out.trans hk)
    clear hk
    go_wp2_with fail
    go_ret
    exact ⟨rfl, HK.out⟩
  have g3 : (l.length : Int) ≤ 200 := by omega
  have g4 : decide ((200 : Int) < (l.length : Int)) = false := decide_eq_false (by omega)
  go_wp2_with fail
  refine Calls.mono (hnew_m w1) ?_
  rintro e w2 ⟨rfl, hm, hk⟩
  have HHN : Hid (w.heap.size ≤ w1.heap.size) := HK.out.size
  have HK := Lib.hid (HK.out.trans hk)
  have HM := Lib.hid hm
  clear hk hm
  generalize w1.heap.size = H at *
  have HS0 : Hid (strB (s.data.toList.drop 0) = s) := by show _ = _; rw [List.drop_zero, strB_data]
  have HLN : Hid (s.data.toList.length = s.size) := data_size s
  generalize hS : s.data.toList = S at *
  have HSS := Lib.hid hS
  clear hS
  go_wp2_with fail
  go_loopw [6, 7] (fun t i wr => ∃ k p : Nat, k ≤ l.length ∧ p ≤ s.size ∧ i = .int .i64 k ∧ t = .string (strB (S.drop p)) ∧ Hid (HashM wr H (S.take p)) ∧ Hid (Keeps w wr)) (fun _ i _ => l.length - (intOf i).toNat)
  case atStart =>
    refine ⟨0, 0, by omega, by omega, rfl, by rw [HS0.out], ?_, HK.out⟩
    exact HM.out
  case round =>
    obtain ⟨k, p, hk, hp, rfl, rfl, hM, hK⟩ := hrel
    have hrl : (strB (S.drop p)).size = s.size - p := by rw [strB_size, List.length_drop, HLN.out]
    have HRL := Lib.hid hrl
    by_cases hlt : k < l.length
    · have hlt64 : (k : Int) < (l.length : Int) := by omega
      have hk0 : (0 : Int) ≤ (k : Int) := by omega
      obtain ⟨b, off, cp, u, e5, d1, r1⟩ := seq_cell (SeqAt.keeps HL.out hK.out) hlt
      injection e5 with e6 e7 e8
      subst e6 e8
      unfold IsInt at r1
      subst r1
      generalize l[k] = n at *
      clear e7
      obtain ⟨κ, hκ, hke⟩ := rem_some n ((strB (S.drop p)).size + 1) (by omega) (by omega)
      have hκ2 : κ ≤ (strB (S.drop p)).size := by omega
      have hpκ : p + κ ≤ s.size := by omega
      have r1 := str_front (strB (S.drop p)) κ hκ2
      have r2 := str_back (strB (S.drop p)) κ hκ2
      have ed : (strB (S.drop p)).data.toList = S.drop p := rfl
      rw [ed] at r1 r2
      clear ed
      have HT : Hid (S.take p ++ (S.drop p).take κ = S.take (p + κ)) := take_both S p κ
      have HD : Hid ((S.drop p).drop κ = S.drop (p + κ)) := by show _ = _; rw [List.drop_drop]
      rw [HD.out] at r2
      have hrs : (strB (S.drop p)).size ≤ 20000 := by omega
      clear hrl
      have hkf : wrap64 ((IntKind.u64.wrap n).tmod (((strB (S.drop p)).size : Int) + 1)) = (κ : Int) := by rw [← hke]; rfl
      clear hke
      go_wp2_with fail
      refine Calls.mono (hadd_any H (S.take p) (strB ((S.drop p).take κ)) _ hM.out (by rw [List.length_take, strB_size, List.length_take, List.length_drop, HLN.out]; omega)) ?_
      rintro e w3 ⟨rfl, hm, hc⟩
      have HM3 : Hid (HashM w3 H (S.take (p + κ))) := by
        show HashM _ _ _
        rw [← HT.out]; exact hm
      have HK3 := Lib.hid (chg_new hc hK.out HHN.out)
      clear hm hc HM
      go_wp2_with fail
      exact ⟨⟨k + 1, p + κ, by omega, hpκ, by go_num, rfl, HM3, HK3⟩, by simp [intOf]; omega⟩
    · obtain rfl : k = l.length := by omega
      clear HM
      go_wp2_with fail
      refine Calls.mono (hadd_any H (S.take p) (strB (S.drop p)) _ hM.out (by rw [List.length_take, strB_size, List.length_drop, HLN.out]; omega)) ?_
      rintro e w3 ⟨rfl, hm, hc⟩
      have HM : Hid (HashM w3 H S) := by
        show HashM _ _ _
        have e1 : S.take p ++ S.drop p = S := List.take_append_drop p S
        have e2 : S.take p ++ (strB (S.drop p)).data.toList = S := e1
        rw [← e2]; exact hm
      have HK := Lib.hid (chg_new hc hK.out HHN.out)
      clear hm hc hM hK hrl HRL
      have HC : Hid (∀ wx : World, Calls Try.prog 23 #[.string s] wx fun e w' => e = .returned (.string (strB (SH.sumB S))) ∧ Keeps wx w') := fun wx => by
        have := ssum_any s wx (by omega)
        rw [HSS.out] at this
        exact this
      have hyy : ((strB (SH.sumB S)).toList == (strB (SH.sumB S)).toList) = true := by simp
      have hly : Hid ((S.length : Int) = (s.size : Int)) := by show _ = _; rw [HLN.out]
      go_wp2_with fail
      refine Calls.mono (hsum_any H S w3 HM.out (by rw [HLN.out]; omega)) ?_
      rintro e w4 ⟨rfl, hk⟩
      have HM := Lib.hid (HM.out.keeps hk)
      have HK := Lib.hid (HK.out.trans hk)
      clear hk
      go_wp2_with fail
      refine Calls.mono (HC.out w4) ?_
      rintro e w5 ⟨rfl, hk⟩
      have HM := Lib.hid (HM.out.keeps hk)
      have HK := Lib.hid (HK.out.trans hk)
      clear hk
      go_wp2_with fail
      refine Calls.mono (hsum_any H S w5 HM.out (by rw [HLN.out]; omega)) ?_
      rintro e w6 ⟨rfl, hk⟩
      have HM := Lib.hid (HM.out.keeps hk)
      have HK := Lib.hid (HK.out.trans hk)
      clear hk
      go_wp2_with fail
      refine Calls.mono (HC.out w6) ?_
      rintro e w7 ⟨rfl, hk⟩
      have HM := Lib.hid (HM.out.keeps hk)
      have HK := Lib.hid (HK.out.trans hk)
      clear hk
      go_wp2_with fail
      refine Calls.mono (hlen_any H S _ HM.out) ?_
      rintro e w8 ⟨rfl, rfl⟩
      rw [hly.out]
      go_wp2_with fail
      have HX : Hid (∀ wx : World, Calls Try.prog 24 #[.string s] wx fun e w' => e = .returned (.string (strB (SH.hexB S))) ∧ Keeps wx w') := fun wx => by
        have := hex_any s wx (by omega)
        rw [HSS.out] at this
        exact this
      have HU1 : Hid (unhexE (strB (SH.hexB S)).data.toList = (s, 0)) := by
        show _ = _
        have e1 : (strB (SH.hexB S)).data.toList = SH.hexB S := rfl
        rw [e1]
        unfold unhexE
        rw [SH.unhex_hex, ← HSS.out]
        show (strB s.data.toList, (0 : Int)) = (s, 0)
        rw [strB_data]
      have hss : (s.toList == s.toList) = true := by simp
      refine Calls.mono (HX.out _) ?_
      rintro e w8 ⟨rfl, hk⟩
      have HK := Lib.hid (HK.out.trans hk)
      clear hk HM HC
      go_wp2_with fail
      refine Calls.mono (unhex_e _ w8 (by rw [strB_size, SH.hexB_length, HLN.out]; omega) HU1.out) ?_
      rintro e w9 ⟨rfl, hk⟩
      have HK := Lib.hid (HK.out.trans hk)
      clear hk
      go_wp2_with fail
      cases hu : SH.unhexB S with
      | none =>
        have HU2 : Hid (unhexE s.data.toList = (⟨#[]⟩, 4)) := by show _ = _; rw [HSS.out]; unfold unhexE; rw [hu]
        clear hu
        refine Calls.mono (unhex_e s w9 (by omega) HU2.out) ?_
        rintro e w10 ⟨rfl, hk⟩
        have HK := Lib.hid (HK.out.trans hk)
        clear hk
        go_wp2_with fail
        go_ret
        exact ⟨rfl, HK.out⟩
      | some r =>
        have HU2 : Hid (unhexE s.data.toList = (strB r, 0)) := by show _ = _; rw [HSS.out]; unfold unhexE; rw [hu]
        have HR : Hid (SH.hexB (strB r).data.toList = s.data.toList) := by
          show _ = _
          have e1 : (strB r).data.toList = r := rfl
          rw [e1, SH.hex_unhex hu, HSS.out]
        have hrl : (strB r).size ≤ 1000000 := by
          have h9 := SH.unhexB_length hu
          rw [strB_size]
          have := HLN.out
          omega
        clear hu
        refine Calls.mono (unhex_e s w9 (by omega) HU2.out) ?_
        rintro e w10 ⟨rfl, hk⟩
        have HK := Lib.hid (HK.out.trans hk)
        clear hk
        generalize strB r = y at *
        go_wp2_with fail
        refine Calls.mono (hex_e y w10 hrl HR.out) ?_
        rintro e w11 ⟨rfl, hk⟩
        have HK := Lib.hid (HK.out.trans hk)
        clear hk
        go_wp2_with fail
        go_ret
        exact ⟨rfl, HK.out⟩
end Go.Proofs.Ytcapalofocmmoaa
