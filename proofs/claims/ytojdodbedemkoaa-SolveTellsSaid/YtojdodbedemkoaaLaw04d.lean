/- The walk of the law that package solve tells what the document tells. -/
import Derived.Test.YtojdodbedemkoaaRefSolve
import Derived.Test.YtojdodbedemkoaaLaw04c
namespace Go.Proofs.Ytojdodbedemkoaa
open Go.RowKit
theorem long_rows {m : List (List UInt8)} (h : longB m = false) : ∀ r ∈ m, r.length ≤ 4096 := by
  intro r hr
  unfold longB at h
  simp only [Bool.or_eq_false_iff, List.any_eq_false, decide_eq_true_eq] at h
  have := h.2 r hr
  omega
set_option maxRecDepth 100000 in
set_option maxHeartbeats 4000000 in
theorem tells04_any (va : Value) (m : List (List UInt8)) (vv : Value) (v : List UInt8) (w : World) (ha : MatAt w.heap va m) (hv : RowAt w.heap vv v) :
    Calls Try.prog 9 #[va, vv] w fun e w' => e = .returned (.bool true) ∧ Keeps w w' := by
  obtain ⟨pa, qa, rfl⟩ := seq_shape ha
  obtain ⟨pv, qv, rfl⟩ := seq_shape hv
  have HA := Lib.hid ha
  have HV := Lib.hid hv
  clear ha hv
  have HK : Hid (Keeps w w) := keeps_refl w
  cases la : longB m with
  | true =>
    go_enter Try.func9, Try.ntmps9
    go_wp2_with fail
    refine Calls.mono (long_is _ m _ HA.out _ la) ?_
    rintro e w1 ⟨rfl, hk⟩
    have HK : Hid (Keeps w w1) := HK.out.call hk (Nat.le_refl _)
    clear hk
    go_wp2_with fail
    refine Calls.mono (awake_any _) ?_
    rintro e w2 ⟨rfl, hk⟩
    have HK : Hid (Keeps w w2) := HK.out.call hk (Nat.le_refl _)
    clear hk
    go_wp2
    go_ret
    exact ⟨rfl, HK.out⟩
  | false =>
    have LGA := Lib.hid la
    clear la
    by_cases hvl : 20 < v.length
    · have h1 : decide (20 < v.length) = true := decide_eq_true hvl
      have h2 : decide ((20 : Int) < (v.length : Int)) = true := decide_eq_true (by omega)
      go_enter Try.func9, Try.ntmps9
      go_wp2_with fail
      refine Calls.mono (long_is _ m _ HA.out _ LGA.out) ?_
      rintro e w21 ⟨rfl, hk⟩
      have HA := Lib.hid (MatAt.keeps HA.out hk)
      have HV := Lib.hid (SeqAt.keeps HV.out hk)
      have HK : Hid (Keeps w w21) := HK.out.call hk (Nat.le_refl _)
      clear hk
      go_wp2_with fail
      refine Calls.mono (awake_any _) ?_
      rintro e w22 ⟨rfl, hk⟩
      have HA := Lib.hid (MatAt.keeps HA.out hk)
      have HV := Lib.hid (SeqAt.keeps HV.out hk)
      have HK : Hid (Keeps w w22) := HK.out.call hk (Nat.le_refl _)
      clear hk
      go_wp2
      go_ret
      exact ⟨rfl, HK.out⟩
    · have h1 : decide (20 < v.length) = false := decide_eq_false hvl
      have h2 : decide ((20 : Int) < (v.length : Int)) = false := decide_eq_false (by omega)
      go_enter Try.func9, Try.ntmps9
      go_wp2_with fail
      refine Calls.mono (long_is _ m _ HA.out _ LGA.out) ?_
      rintro e w23 ⟨rfl, hk⟩
      have HA := Lib.hid (MatAt.keeps HA.out hk)
      have HV := Lib.hid (SeqAt.keeps HV.out hk)
      have HK : Hid (Keeps w w23) := HK.out.call hk (Nat.le_refl _)
      clear hk
      clear hvl
      have SL := Lib.hid (long_small LGA.out)
      go_wp2_with fail
      refine Calls.mono (lawown_any _ m _ HA.out (by have := SL.out; omega) (long_rows LGA.out)) ?_
      rintro e w24 ⟨vi, rfl, hi, hk⟩
      have HI := Lib.hid hi.at_
      clear hi h1 h2
      have HA := Lib.hid (MatAt.keeps HA.out hk)
      have HV := Lib.hid (SeqAt.keeps HV.out hk)
      have HK : Hid (Keeps w w24) := HK.out.call hk (Nat.le_refl _)
      clear hk
      generalize hTM : turnM m = TM at *
      generalize hDM : downM m = DM at *
      generalize hRM : rankM m = RM at *
      generalize hSM : solveM m v = SM at *
      have ETM := Lib.hid hTM
      clear hTM
      have EDM := Lib.hid hDM
      clear hDM
      have ERM := Lib.hid hRM
      clear hRM
      have ESM := Lib.hid hSM
      clear hSM
      obtain ⟨pi, qi, rfl⟩ := seq_shape HI.out
      go_wp2_with fail
      go_loopw [6] (fun i wr => ∃ r : Nat, r ≤ 2 ∧ i = .int .i64 r ∧ Hid (Keeps w24 wr)) (fun i _ => 2 - (intOf i).toNat)
      case atStart => exact ⟨0, by omega, rfl, keeps_refl _⟩
      case round =>
        obtain ⟨r, hr, rfl, hK⟩ := hrel
        obtain ⟨w0, rfl⟩ : ∃ w0 : World, w0 = wr := ⟨_, rfl⟩
        have HA := Lib.hid (MatAt.keeps HA.out hK.out)
        have HI := Lib.hid (MatAt.keeps HI.out hK.out)
        have HV := Lib.hid (SeqAt.keeps HV.out hK.out)
        by_cases hr2 : r < 2
        · have hr64 : (r : Int) < 2 := by omega
          have HK0 := HK
          have HK : Hid (Keeps w0 w0) := keeps_refl w0
          go_wp2_with fail
          refine Calls.mono (gave (turn_any _ m _ HI.out) ETM.out) ?_
          rintro e w25 ⟨vA, rfl, hA, hk⟩
          have hA1 := Lib.hid hA.bound
          have hs1 := hk.size
          clear hA
          have HA := Lib.hid (MatAt.keeps HA.out hk)
          have HV := Lib.hid (SeqAt.keeps HV.out hk)
          have HI := Lib.hid (MatAt.keeps HI.out hk)
          have HK : Hid (Keeps w0 w25) := HK.out.call hk (Nat.le_refl _)
          clear hk
          have HKA := Lib.hid HK.out
          go_wp2_with fail
          refine Calls.mono (gave (refturn_any _ m _ HA.out) ETM.out) ?_
          rintro e w26 ⟨vB, rfl, hB, hk⟩
          have HA1 := Lib.hid (hA1.out.keeps hk)
          have HB := Lib.hid hB.at_
          have hs2 := hk.size
          clear hB hA1
          have HA := Lib.hid (MatAt.keeps HA.out hk)
          have HV := Lib.hid (SeqAt.keeps HV.out hk)
          have HI := Lib.hid (MatAt.keeps HI.out hk)
          have HK : Hid (Keeps w0 w26) := HK.out.call hk (Nat.le_refl _)
          clear hk
          go_wp2_with fail
          refine Calls.mono (gave (sdown_any _ m _ HI.out) EDM.out) ?_
          rintro e w27 ⟨vC, rfl, hC, hk⟩
          have HC0 := Lib.hid hC.bound
          have hs3 := hk.size
          clear hC
          have HA := Lib.hid (MatAt.keeps HA.out hk)
          have HV := Lib.hid (SeqAt.keeps HV.out hk)
          have HI := Lib.hid (MatAt.keeps HI.out hk)
          have HB := Lib.hid (MatAt.keeps HB.out hk)
          have HA1 := Lib.hid (MatIn.keeps HA1.out hk)
          have HK : Hid (Keeps w0 w27) := HK.out.call hk (Nat.le_refl _)
          clear hk
          go_wp2_with fail
          refine Calls.mono (gave (refsdown_any _ m _ HA.out) EDM.out) ?_
          rintro e w28 ⟨vD, rfl, hD, hk⟩
          have HD := Lib.hid hD
          have hs4 := hk.size
          clear hD
          have HA := Lib.hid (MatAt.keeps HA.out hk)
          have HV := Lib.hid (SeqAt.keeps HV.out hk)
          have HI := Lib.hid (MatAt.keeps HI.out hk)
          have HB := Lib.hid (MatAt.keeps HB.out hk)
          have HA1 := Lib.hid (MatIn.keeps HA1.out hk)
          have HC0 := Lib.hid (MatIn.keeps HC0.out hk)
          have HK : Hid (Keeps w0 w28) := HK.out.call hk (Nat.le_refl _)
          clear hk
          go_wp2_with fail
          refine Calls.mono (gaveI (rank_any _ m _ HI.out) ERM.out) ?_
          rintro e w29 ⟨rfl, hk⟩
          have hs5 := hk.size
          have HA := Lib.hid (MatAt.keeps HA.out hk)
          have HV := Lib.hid (SeqAt.keeps HV.out hk)
          have HI := Lib.hid (MatAt.keeps HI.out hk)
          have HB := Lib.hid (MatAt.keeps HB.out hk)
          have HA1 := Lib.hid (MatIn.keeps HA1.out hk)
          have HC0 := Lib.hid (MatIn.keeps HC0.out hk)
          have HD := Lib.hid (MatIn.keeps HD.out hk)
          have HK : Hid (Keeps w0 w29) := HK.out.call hk (Nat.le_refl _)
          clear hk
          go_wp2_with fail
          refine Calls.mono (gaveI (refrank_any _ m _ HA.out) ERM.out) ?_
          rintro e w30 ⟨rfl, hk⟩
          have hs6 := hk.size
          have HA := Lib.hid (MatAt.keeps HA.out hk)
          have HV := Lib.hid (SeqAt.keeps HV.out hk)
          have HI := Lib.hid (MatAt.keeps HI.out hk)
          have HB := Lib.hid (MatAt.keeps HB.out hk)
          have HA1 := Lib.hid (MatIn.keeps HA1.out hk)
          have HC0 := Lib.hid (MatIn.keeps HC0.out hk)
          have HD := Lib.hid (MatIn.keeps HD.out hk)
          have HK : Hid (Keeps w0 w30) := HK.out.call hk (Nat.le_refl _)
          clear hk
          go_wp2_with fail
          refine Calls.mono (gaveR (solve_any _ _ m v _ HI.out HV.out) ESM.out) ?_
          rintro e w31 ⟨vO, rfl, hO, hk⟩
          have HO := Lib.hid hO
          have hs7 := hk.size
          clear hO
          have HA := Lib.hid (MatAt.keeps HA.out hk)
          have HV := Lib.hid (SeqAt.keeps HV.out hk)
          have HI := Lib.hid (MatAt.keeps HI.out hk)
          have HB := Lib.hid (MatAt.keeps HB.out hk)
          have HA1 := Lib.hid (MatIn.keeps HA1.out hk)
          have HC0 := Lib.hid (MatIn.keeps HC0.out hk)
          have HD := Lib.hid (MatIn.keeps HD.out hk)
          have HK : Hid (Keeps w0 w31) := HK.out.call hk (Nat.le_refl _)
          clear hk
          go_wp2_with fail
          refine Calls.mono (gaveR (refsolve_any _ _ m v _ HA.out HV.out) ESM.out) ?_
          rintro e w32 ⟨vQ, rfl, hQ, hk⟩
          have HO := Lib.hid (SeqIn.chg HO.out (T := fun _ => False) (Kept.any hk) (fun _ _ _ _ x => x) fun _ _ _ x => x)
          have HQ := Lib.hid hQ
          have hs8 := hk.size
          clear hQ
          have HB := Lib.hid (MatAt.keeps HB.out hk)
          have HA1 := Lib.hid (MatIn.keeps HA1.out hk)
          have HC0 := Lib.hid (MatIn.keeps HC0.out hk)
          have HD := Lib.hid (MatIn.keeps HD.out hk)
          have HK : Hid (Keeps w0 w32) := HK.out.call hk (Nat.le_refl _)
          clear hk
          clear HA HI HV
          go_wp2_with fail
          refine Calls.mono (lawsame_any _ _ _ _ w32 (matW HA1.out) HA1.out.at_ HB.out) ?_
          rintro e wp ⟨rfl, hc⟩
          have hc1 : Chg (fun x => w0.heap.size ≤ x ∧ x < w25.heap.size) w32 wp := hc
          have HCp := Lib.hid (HC0.out.chg hc1 fun b _ h1 h2 => by omega)
          have HDp := Lib.hid (HD.out.chg hc1 fun b _ h1 h2 => by omega)
          have HOp := Lib.hid (SeqIn.chg HO.out hc1 (fun b _ h1 _ h2 => by omega) fun _ _ _ x => x)
          have HQp := Lib.hid (SeqIn.chg HQ.out hc1 (fun b _ h1 _ h2 => by omega) fun _ _ _ x => x)
          have HC1 := Lib.hid hc1
          clear hc hc1 HA1 HB HC0 HD HO HQ
          go_wp2_with fail
          refine Calls.mono (lawsame_any _ _ _ _ wp (matW HCp.out) HCp.out.at_ HDp.out.at_) ?_
          rintro e wq ⟨rfl, hc⟩
          have hc2 : Chg (fun x => w26.heap.size ≤ x ∧ x < w27.heap.size) wp wq := hc
          have HOq := Lib.hid (SeqIn.chg HOp.out hc2 (fun b _ h1 _ h2 => by omega) fun _ _ _ x => x)
          have HQq := Lib.hid (SeqIn.chg HQp.out hc2 (fun b _ h1 _ h2 => by omega) fun _ _ _ x => x)
          have cO : (convert 33 9 vO).run Try.prog wq = _ := conv_row Try.underlying33 Try.underlying5 Try.underlying9 (SeqIn.at_ HOq.out)
          have cQ : (convert 33 9 vQ).run Try.prog wq = _ := conv_row Try.underlying33 Try.underlying5 Try.underlying9 (SeqIn.at_ HQq.out)
          have hse := strB_same SM.1
          have hkq : Hid (Keeps w0 wq) := ((HK.out.chg.trans (HC1.out.mono fun x _ h => h.1)).trans (hc2.mono fun x _ h => by omega)).keeps fun x hx h => by omega
          clear hc hc2 HCp HDp HOp HQp HC1
          go_wp2_with fail
          exact ⟨⟨r + 1, by omega, rfl, hK.out.call hkq.out (Nat.le_refl _)⟩, by simp [intOf]; omega⟩
        · obtain rfl : r = 2 := by omega
          have HK := Lib.hid (HK.out.call hK.out (Nat.le_refl _))
          go_wp2_with fail
          refine Calls.mono (same04_yes _ _ m _ HI.out HA.out) ?_
          rintro e w33 ⟨rfl, hk⟩
          have HK : Hid (Keeps w w33) := HK.out.call hk (Nat.le_refl _)
          clear hk
          go_wp2_with fail
          refine Calls.mono (awake_any _) ?_
          rintro e w34 ⟨rfl, hk⟩
          have HK : Hid (Keeps w w34) := HK.out.call hk (Nat.le_refl _)
          clear hk
          go_wp2
          go_ret
          exact ⟨rfl, HK.out⟩
end Go.Proofs.Ytojdodbedemkoaa
