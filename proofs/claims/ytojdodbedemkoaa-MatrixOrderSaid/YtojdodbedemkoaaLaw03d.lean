/- The walk of the law MatrixOrder. -/
import Derived.Test.YtojdodbedemkoaaWorks
import Derived.Test.YtojdodbedemkoaaMatLaw
import Derived.Test.YtojdodbedemkoaaGive
namespace Go.Proofs.Ytojdodbedemkoaa
open Go.RowKit
set_option maxRecDepth 100000 in
set_option maxHeartbeats 8000000 in
theorem order_any (va : Value) (a : List (List UInt8)) (vb : Value) (b : List (List UInt8)) (vc : Value) (c : List (List UInt8)) (vv : Value) (v : List UInt8) (vl : Value) (l : List Int) (w : World)
    (ha : MatAt w.heap va a) (hb : MatAt w.heap vb b) (hc : MatAt w.heap vc c) (hv : RowAt w.heap vv v) (hl : SeqAt IsInt w.heap vl l) :
    Calls Try.prog 13 #[va, vb, vc, vv, vl] w fun e w' => e = .returned (.bool true) ∧ Keeps w w' := by
  obtain ⟨pa, qa, rfl⟩ := seq_shape ha
  obtain ⟨pb, qb, rfl⟩ := seq_shape hb
  obtain ⟨pc, qc, rfl⟩ := seq_shape hc
  obtain ⟨pl, ql, rfl⟩ := seq_shape hl
  have HA := Lib.hid ha
  have HB := Lib.hid hb
  have HC := Lib.hid hc
  have HV := Lib.hid hv
  have HL := Lib.hid hl
  have HK : Hid (Keeps w w) := keeps_refl w
  clear ha hb hc hv hl
  cases ma : mayB 12 a with
  | false =>
    have MA := Lib.hid ma
    go_enter Try.func13, Try.ntmps13
    go_wp2_with fail
    refine Calls.mono (works_any w) ?_
    rintro e w1 ⟨rfl, hk⟩
    have HA := Lib.hid (MatAt.keeps HA.out hk)
    have HB := Lib.hid (MatAt.keeps HB.out hk)
    have HC := Lib.hid (MatAt.keeps HC.out hk)
    have HV := Lib.hid (SeqAt.keeps HV.out hk)
    have HL := Lib.hid (SeqAt.keeps HL.out hk)
    have HK : Hid (Keeps w w1) := HK.out.call hk (Nat.le_refl _)
    clear hk
    go_wp2_with fail
    refine Calls.mono (may_no _ a w1 HA.out MA.out) ?_
    rintro e w2 ⟨rfl, hk⟩
    have HA := Lib.hid (MatAt.keeps HA.out hk)
    have HB := Lib.hid (MatAt.keeps HB.out hk)
    have HC := Lib.hid (MatAt.keeps HC.out hk)
    have HV := Lib.hid (SeqAt.keeps HV.out hk)
    have HL := Lib.hid (SeqAt.keeps HL.out hk)
    have HK : Hid (Keeps w w2) := HK.out.call hk (Nat.le_refl _)
    clear hk
    go_wp2_with fail
    refine Calls.mono (works_any w2) ?_
    rintro e w3 ⟨rfl, hk⟩
    have HA := Lib.hid (MatAt.keeps HA.out hk)
    have HB := Lib.hid (MatAt.keeps HB.out hk)
    have HC := Lib.hid (MatAt.keeps HC.out hk)
    have HV := Lib.hid (SeqAt.keeps HV.out hk)
    have HL := Lib.hid (SeqAt.keeps HL.out hk)
    have HK : Hid (Keeps w w3) := HK.out.call hk (Nat.le_refl _)
    clear hk
    go_wp2
    go_ret
    exact ⟨rfl, HK.out⟩
  | true =>
    have MA := Lib.hid ma
    clear ma
    cases mb : mayB 12 b with
    | false =>
      have MB := Lib.hid mb
      go_enter Try.func13, Try.ntmps13
      go_wp2_with fail
      refine Calls.mono (works_any w) ?_
      rintro e w4 ⟨rfl, hk⟩
      have HA := Lib.hid (MatAt.keeps HA.out hk)
      have HB := Lib.hid (MatAt.keeps HB.out hk)
      have HC := Lib.hid (MatAt.keeps HC.out hk)
      have HV := Lib.hid (SeqAt.keeps HV.out hk)
      have HL := Lib.hid (SeqAt.keeps HL.out hk)
      have HK : Hid (Keeps w w4) := HK.out.call hk (Nat.le_refl _)
      clear hk
      go_wp2_with fail
      refine Calls.mono (may_yes _ a w4 HA.out MA.out) ?_
      rintro e w5 ⟨rfl, hk⟩
      have HA := Lib.hid (MatAt.keeps HA.out hk)
      have HB := Lib.hid (MatAt.keeps HB.out hk)
      have HC := Lib.hid (MatAt.keeps HC.out hk)
      have HV := Lib.hid (SeqAt.keeps HV.out hk)
      have HL := Lib.hid (SeqAt.keeps HL.out hk)
      have HK : Hid (Keeps w w5) := HK.out.call hk (Nat.le_refl _)
      clear hk
      go_wp2_with fail
      refine Calls.mono (may_no _ b w5 HB.out MB.out) ?_
      rintro e w6 ⟨rfl, hk⟩
      have HA := Lib.hid (MatAt.keeps HA.out hk)
      have HB := Lib.hid (MatAt.keeps HB.out hk)
      have HC := Lib.hid (MatAt.keeps HC.out hk)
      have HV := Lib.hid (SeqAt.keeps HV.out hk)
      have HL := Lib.hid (SeqAt.keeps HL.out hk)
      have HK : Hid (Keeps w w6) := HK.out.call hk (Nat.le_refl _)
      clear hk
      go_wp2_with fail
      refine Calls.mono (works_any w6) ?_
      rintro e w7 ⟨rfl, hk⟩
      have HA := Lib.hid (MatAt.keeps HA.out hk)
      have HB := Lib.hid (MatAt.keeps HB.out hk)
      have HC := Lib.hid (MatAt.keeps HC.out hk)
      have HV := Lib.hid (SeqAt.keeps HV.out hk)
      have HL := Lib.hid (SeqAt.keeps HL.out hk)
      have HK : Hid (Keeps w w7) := HK.out.call hk (Nat.le_refl _)
      clear hk
      go_wp2
      go_ret
      exact ⟨rfl, HK.out⟩
    | true =>
      have MB := Lib.hid mb
      clear mb
      cases mc : mayB 12 c with
      | false =>
        have MC := Lib.hid mc
        go_enter Try.func13, Try.ntmps13
        go_wp2_with fail
        refine Calls.mono (works_any w) ?_
        rintro e w8 ⟨rfl, hk⟩
        have HA := Lib.hid (MatAt.keeps HA.out hk)
        have HB := Lib.hid (MatAt.keeps HB.out hk)
        have HC := Lib.hid (MatAt.keeps HC.out hk)
        have HV := Lib.hid (SeqAt.keeps HV.out hk)
        have HL := Lib.hid (SeqAt.keeps HL.out hk)
        have HK : Hid (Keeps w w8) := HK.out.call hk (Nat.le_refl _)
        clear hk
        go_wp2_with fail
        refine Calls.mono (may_yes _ a w8 HA.out MA.out) ?_
        rintro e w9 ⟨rfl, hk⟩
        have HA := Lib.hid (MatAt.keeps HA.out hk)
        have HB := Lib.hid (MatAt.keeps HB.out hk)
        have HC := Lib.hid (MatAt.keeps HC.out hk)
        have HV := Lib.hid (SeqAt.keeps HV.out hk)
        have HL := Lib.hid (SeqAt.keeps HL.out hk)
        have HK : Hid (Keeps w w9) := HK.out.call hk (Nat.le_refl _)
        clear hk
        go_wp2_with fail
        refine Calls.mono (may_yes _ b w9 HB.out MB.out) ?_
        rintro e w10 ⟨rfl, hk⟩
        have HA := Lib.hid (MatAt.keeps HA.out hk)
        have HB := Lib.hid (MatAt.keeps HB.out hk)
        have HC := Lib.hid (MatAt.keeps HC.out hk)
        have HV := Lib.hid (SeqAt.keeps HV.out hk)
        have HL := Lib.hid (SeqAt.keeps HL.out hk)
        have HK : Hid (Keeps w w10) := HK.out.call hk (Nat.le_refl _)
        clear hk
        go_wp2_with fail
        refine Calls.mono (may_no _ c w10 HC.out MC.out) ?_
        rintro e w11 ⟨rfl, hk⟩
        have HA := Lib.hid (MatAt.keeps HA.out hk)
        have HB := Lib.hid (MatAt.keeps HB.out hk)
        have HC := Lib.hid (MatAt.keeps HC.out hk)
        have HV := Lib.hid (SeqAt.keeps HV.out hk)
        have HL := Lib.hid (SeqAt.keeps HL.out hk)
        have HK : Hid (Keeps w w11) := HK.out.call hk (Nat.le_refl _)
        clear hk
        go_wp2_with fail
        refine Calls.mono (works_any w11) ?_
        rintro e w12 ⟨rfl, hk⟩
        have HA := Lib.hid (MatAt.keeps HA.out hk)
        have HB := Lib.hid (MatAt.keeps HB.out hk)
        have HC := Lib.hid (MatAt.keeps HC.out hk)
        have HV := Lib.hid (SeqAt.keeps HV.out hk)
        have HL := Lib.hid (SeqAt.keeps HL.out hk)
        have HK : Hid (Keeps w w12) := HK.out.call hk (Nat.le_refl _)
        clear hk
        go_wp2
        go_ret
        exact ⟨rfl, HK.out⟩
      | true =>
        have MC := Lib.hid mc
        clear mc
        by_cases h200 : 200 < l.length
        ·
          have hl1 : decide (200 < (l.length : Int)) = true := decide_eq_true (by omega)
          go_enter Try.func13, Try.ntmps13
          go_wp2_with fail
          refine Calls.mono (works_any w) ?_
          rintro e w13 ⟨rfl, hk⟩
          have HA := Lib.hid (MatAt.keeps HA.out hk)
          have HB := Lib.hid (MatAt.keeps HB.out hk)
          have HC := Lib.hid (MatAt.keeps HC.out hk)
          have HV := Lib.hid (SeqAt.keeps HV.out hk)
          have HL := Lib.hid (SeqAt.keeps HL.out hk)
          have HK : Hid (Keeps w w13) := HK.out.call hk (Nat.le_refl _)
          clear hk
          go_wp2_with fail
          refine Calls.mono (may_yes _ a w13 HA.out MA.out) ?_
          rintro e w14 ⟨rfl, hk⟩
          have HA := Lib.hid (MatAt.keeps HA.out hk)
          have HB := Lib.hid (MatAt.keeps HB.out hk)
          have HC := Lib.hid (MatAt.keeps HC.out hk)
          have HV := Lib.hid (SeqAt.keeps HV.out hk)
          have HL := Lib.hid (SeqAt.keeps HL.out hk)
          have HK : Hid (Keeps w w14) := HK.out.call hk (Nat.le_refl _)
          clear hk
          go_wp2_with fail
          refine Calls.mono (may_yes _ b w14 HB.out MB.out) ?_
          rintro e w15 ⟨rfl, hk⟩
          have HA := Lib.hid (MatAt.keeps HA.out hk)
          have HB := Lib.hid (MatAt.keeps HB.out hk)
          have HC := Lib.hid (MatAt.keeps HC.out hk)
          have HV := Lib.hid (SeqAt.keeps HV.out hk)
          have HL := Lib.hid (SeqAt.keeps HL.out hk)
          have HK : Hid (Keeps w w15) := HK.out.call hk (Nat.le_refl _)
          clear hk
          go_wp2_with fail
          refine Calls.mono (may_yes _ c w15 HC.out MC.out) ?_
          rintro e w16 ⟨rfl, hk⟩
          have HA := Lib.hid (MatAt.keeps HA.out hk)
          have HB := Lib.hid (MatAt.keeps HB.out hk)
          have HC := Lib.hid (MatAt.keeps HC.out hk)
          have HV := Lib.hid (SeqAt.keeps HV.out hk)
          have HL := Lib.hid (SeqAt.keeps HL.out hk)
          have HK : Hid (Keeps w w16) := HK.out.call hk (Nat.le_refl _)
          clear hk
          go_wp2_with fail
          refine Calls.mono (works_any w16) ?_
          rintro e w17 ⟨rfl, hk⟩
          have HA := Lib.hid (MatAt.keeps HA.out hk)
          have HB := Lib.hid (MatAt.keeps HB.out hk)
          have HC := Lib.hid (MatAt.keeps HC.out hk)
          have HV := Lib.hid (SeqAt.keeps HV.out hk)
          have HL := Lib.hid (SeqAt.keeps HL.out hk)
          have HK : Hid (Keeps w w17) := HK.out.call hk (Nat.le_refl _)
          clear hk
          go_wp2
          go_ret
          exact ⟨rfl, HK.out⟩
        ·
          have hl1 : decide (200 < (l.length : Int)) = false := decide_eq_false (by omega)
          obtain ⟨L, R, hL, hR, hLa, haR⟩ := order_ones MA.out
          obtain ⟨na, hna⟩ : ∃ na, na = (a.headD []).length := ⟨_, rfl⟩
          obtain ⟨nb, hnb⟩ : ∃ nb, nb = (b.headD []).length := ⟨_, rfl⟩
          have i1 : 0 < a.length := (mayB_iff.1 MA.out).1
          obtain ⟨b1, o1, ea⟩ := mat_addr HA.out i1
          subst ea
          have EL := Lib.hid hL
          have ER := Lib.hid hR
          have ELa := Lib.hid hLa
          have EaR := Lib.hid haR
          rw [← hna] at hR
          have ER := Lib.hid hR
          have HNA := Lib.hid hna
          have HNB := Lib.hid hnb
          clear hL hR hLa haR hna hnb
          by_cases hab : na = b.length
          ·
            obtain ⟨AB, hAB, mAB, lAB, cAB⟩ := order_prod MA.out MB.out (HNA.out ▸ hab)
            have EAB := Lib.hid hAB
            have MAB := Lib.hid mAB
            have LAB := Lib.hid lAB
            rw [← HNB.out] at cAB
            have CAB := Lib.hid cAB
            have heq : ((na : Int) == (b.length : Int)) = true := by rw [beq_iff_eq, hab]
            have i2 : 0 < AB.length := by rw [lAB]; exact i1
            have HAB := Lib.hid hab
            clear hAB mAB lAB cAB hab
            by_cases hr : (rowsM a l).2 = 0
            ·
              obtain ⟨T, S, hT, hS, hTb⟩ := order_rows MA.out MB.out (HNA.out ▸ HAB.out) hr
              rw [EAB.out] at hS
              have ET := Lib.hid hT
              have ES := Lib.hid hS
              have ETb := Lib.hid hTb
              clear hT hS hTb hr
              go_enter Try.func13, Try.ntmps13
              go_wp2_with fail
              refine Calls.mono (works_any w) ?_
              rintro e w18 ⟨rfl, hk⟩
              have HA := Lib.hid (MatAt.keeps HA.out hk)
              have HB := Lib.hid (MatAt.keeps HB.out hk)
              have HC := Lib.hid (MatAt.keeps HC.out hk)
              have HV := Lib.hid (SeqAt.keeps HV.out hk)
              have HL := Lib.hid (SeqAt.keeps HL.out hk)
              have HK : Hid (Keeps w w18) := HK.out.call hk (Nat.le_refl _)
              clear hk
              go_wp2_with fail
              refine Calls.mono (may_yes _ a w18 HA.out MA.out) ?_
              rintro e w19 ⟨rfl, hk⟩
              have HA := Lib.hid (MatAt.keeps HA.out hk)
              have HB := Lib.hid (MatAt.keeps HB.out hk)
              have HC := Lib.hid (MatAt.keeps HC.out hk)
              have HV := Lib.hid (SeqAt.keeps HV.out hk)
              have HL := Lib.hid (SeqAt.keeps HL.out hk)
              have HK : Hid (Keeps w w19) := HK.out.call hk (Nat.le_refl _)
              clear hk
              go_wp2_with fail
              refine Calls.mono (may_yes _ b w19 HB.out MB.out) ?_
              rintro e w20 ⟨rfl, hk⟩
              have HA := Lib.hid (MatAt.keeps HA.out hk)
              have HB := Lib.hid (MatAt.keeps HB.out hk)
              have HC := Lib.hid (MatAt.keeps HC.out hk)
              have HV := Lib.hid (SeqAt.keeps HV.out hk)
              have HL := Lib.hid (SeqAt.keeps HL.out hk)
              have HK : Hid (Keeps w w20) := HK.out.call hk (Nat.le_refl _)
              clear hk
              go_wp2_with fail
              refine Calls.mono (may_yes _ c w20 HC.out MC.out) ?_
              rintro e w21 ⟨rfl, hk⟩
              have HA := Lib.hid (MatAt.keeps HA.out hk)
              have HB := Lib.hid (MatAt.keeps HB.out hk)
              have HC := Lib.hid (MatAt.keeps HC.out hk)
              have HV := Lib.hid (SeqAt.keeps HV.out hk)
              have HL := Lib.hid (SeqAt.keeps HL.out hk)
              have HK : Hid (Keeps w w21) := HK.out.call hk (Nat.le_refl _)
              clear hk
              go_wp2_with fail
              refine Calls.mono (gave (matone_any (a.length : Int) w21) EL.out) ?_
              rintro e w22 ⟨v1, rfl, hH1, hk⟩
              have HA := Lib.hid (MatAt.keeps HA.out hk)
              have HB := Lib.hid (MatAt.keeps HB.out hk)
              have HC := Lib.hid (MatAt.keeps HC.out hk)
              have HV := Lib.hid (SeqAt.keeps HV.out hk)
              have HL := Lib.hid (SeqAt.keeps HL.out hk)
              have HK : Hid (Keeps w w22) := HK.out.call hk (Nat.le_refl _)
              clear hk
              have H1 := Lib.hid hH1.at_
              clear hH1
              obtain ⟨p1, q1, d1⟩ := row0y HA.out i1
              rw [← HNA.out] at d1
              go_wp2_with fail
              refine Calls.mono (gave (matone_any (na : Int) w22) ER.out) ?_
              rintro e w23 ⟨v2, rfl, hH2, hk⟩
              have HA := Lib.hid (MatAt.keeps HA.out hk)
              have HB := Lib.hid (MatAt.keeps HB.out hk)
              have HC := Lib.hid (MatAt.keeps HC.out hk)
              have HV := Lib.hid (SeqAt.keeps HV.out hk)
              have HL := Lib.hid (SeqAt.keeps HL.out hk)
              have H1 := Lib.hid (MatAt.keeps H1.out hk)
              have HK : Hid (Keeps w w23) := HK.out.call hk (Nat.le_refl _)
              clear hk
              have H2 := Lib.hid hH2.at_
              clear hH2
              clear d1
              go_wp2_with fail
              refine Calls.mono (gave (matmul_any _ _ L a w23 H1.out HA.out) ELa.out) ?_
              rintro e w24 ⟨v3, rfl, hH3, hk⟩
              have HA := Lib.hid (MatAt.keeps HA.out hk)
              have HB := Lib.hid (MatAt.keeps HB.out hk)
              have HC := Lib.hid (MatAt.keeps HC.out hk)
              have HV := Lib.hid (SeqAt.keeps HV.out hk)
              have HL := Lib.hid (SeqAt.keeps HL.out hk)
              have H1 := Lib.hid (MatAt.keeps H1.out hk)
              have H2 := Lib.hid (MatAt.keeps H2.out hk)
              have HK : Hid (Keeps w w24) := HK.out.call hk (Nat.le_refl _)
              clear hk
              have H3 := Lib.hid hH3.at_
              clear hH3
              go_wp2_with fail
              refine Calls.mono (gave (matmul_any _ _ a R w24 HA.out H2.out) EaR.out) ?_
              rintro e w25 ⟨v4, rfl, hH4, hk⟩
              have HA := Lib.hid (MatAt.keeps HA.out hk)
              have HB := Lib.hid (MatAt.keeps HB.out hk)
              have HC := Lib.hid (MatAt.keeps HC.out hk)
              have HV := Lib.hid (SeqAt.keeps HV.out hk)
              have HL := Lib.hid (SeqAt.keeps HL.out hk)
              have H1 := Lib.hid (MatAt.keeps H1.out hk)
              have H2 := Lib.hid (MatAt.keeps H2.out hk)
              have H3 := Lib.hid (MatAt.keeps H3.out hk)
              have HK : Hid (Keeps w w25) := HK.out.call hk (Nat.le_refl _)
              clear hk
              have H4 := Lib.hid hH4.at_
              clear hH4
              go_wp2_with fail
              refine Calls.mono (kept (matsame_yes _ _ a a w25 H3.out HA.out rfl)) ?_
              rintro e w26 ⟨rfl, hk⟩
              have HA := Lib.hid (MatAt.keeps HA.out hk)
              have HB := Lib.hid (MatAt.keeps HB.out hk)
              have HC := Lib.hid (MatAt.keeps HC.out hk)
              have HV := Lib.hid (SeqAt.keeps HV.out hk)
              have HL := Lib.hid (SeqAt.keeps HL.out hk)
              have H4 := Lib.hid (MatAt.keeps H4.out hk)
              have HK : Hid (Keeps w w26) := HK.out.call hk (Nat.le_refl _)
              clear hk
              go_wp2_with fail
              refine Calls.mono (kept (matsame_yes _ _ a a w26 H4.out HA.out rfl)) ?_
              rintro e w27 ⟨rfl, hk⟩
              have HA := Lib.hid (MatAt.keeps HA.out hk)
              have HB := Lib.hid (MatAt.keeps HB.out hk)
              have HC := Lib.hid (MatAt.keeps HC.out hk)
              have HV := Lib.hid (SeqAt.keeps HV.out hk)
              have HL := Lib.hid (SeqAt.keeps HL.out hk)
              have HK : Hid (Keeps w w27) := HK.out.call hk (Nat.le_refl _)
              clear hk
              go_wp2_with fail
              refine Calls.mono (gave (matmul_any _ _ a b w27 HA.out HB.out) EAB.out) ?_
              rintro e w28 ⟨v5, rfl, hHAB5, hk⟩
              have HA := Lib.hid (MatAt.keeps HA.out hk)
              have HB := Lib.hid (MatAt.keeps HB.out hk)
              have HC := Lib.hid (MatAt.keeps HC.out hk)
              have HV := Lib.hid (SeqAt.keeps HV.out hk)
              have HL := Lib.hid (SeqAt.keeps HL.out hk)
              have HK : Hid (Keeps w w28) := HK.out.call hk (Nat.le_refl _)
              clear hk
              have HAB5 := Lib.hid hHAB5.at_
              clear hHAB5
              obtain ⟨p5, q5, e5⟩ := seq_shape HAB5.out
              subst e5
              obtain ⟨p1, q1, d1⟩ := row0y HA.out i1
              rw [← HNA.out] at d1
              go_wp2_with fail
              refine Calls.mono (gave (matrows_any _ _ a l w28 HA.out HL.out) ET.out) ?_
              rintro e w29 ⟨v13, rfl, hH13, hk⟩
              have HA := Lib.hid (MatAt.keeps HA.out hk)
              have HB := Lib.hid (MatAt.keeps HB.out hk)
              have HC := Lib.hid (MatAt.keeps HC.out hk)
              have HV := Lib.hid (SeqAt.keeps HV.out hk)
              have HL := Lib.hid (SeqAt.keeps HL.out hk)
              have HAB5 := Lib.hid (MatAt.keeps HAB5.out hk)
              have HK : Hid (Keeps w w29) := HK.out.call hk (Nat.le_refl _)
              clear hk
              have H13 := Lib.hid hH13.at_
              clear hH13
              clear d1
              go_wp2_with fail
              refine Calls.mono (gave (matrows_any _ _ AB l w29 HAB5.out HL.out) ES.out) ?_
              rintro e w30 ⟨v14, rfl, hH14, hk⟩
              have HA := Lib.hid (MatAt.keeps HA.out hk)
              have HB := Lib.hid (MatAt.keeps HB.out hk)
              have HC := Lib.hid (MatAt.keeps HC.out hk)
              have HV := Lib.hid (SeqAt.keeps HV.out hk)
              have HL := Lib.hid (SeqAt.keeps HL.out hk)
              have HAB5 := Lib.hid (MatAt.keeps HAB5.out hk)
              have H13 := Lib.hid (MatAt.keeps H13.out hk)
              have HK : Hid (Keeps w w30) := HK.out.call hk (Nat.le_refl _)
              clear hk
              have H14 := Lib.hid hH14.at_
              clear hH14
              go_wp2_with fail
              refine Calls.mono (gave (matmul_any _ _ T b w30 H13.out HB.out) ETb.out) ?_
              rintro e w31 ⟨v15, rfl, hH15, hk⟩
              have HA := Lib.hid (MatAt.keeps HA.out hk)
              have HB := Lib.hid (MatAt.keeps HB.out hk)
              have HC := Lib.hid (MatAt.keeps HC.out hk)
              have HV := Lib.hid (SeqAt.keeps HV.out hk)
              have HL := Lib.hid (SeqAt.keeps HL.out hk)
              have HAB5 := Lib.hid (MatAt.keeps HAB5.out hk)
              have H13 := Lib.hid (MatAt.keeps H13.out hk)
              have H14 := Lib.hid (MatAt.keeps H14.out hk)
              have HK : Hid (Keeps w w31) := HK.out.call hk (Nat.le_refl _)
              clear hk
              have H15 := Lib.hid hH15.at_
              clear hH15
              go_wp2_with fail
              refine Calls.mono (kept (matsame_yes _ _ S S w31 H15.out H14.out rfl)) ?_
              rintro e w32 ⟨rfl, hk⟩
              have HA := Lib.hid (MatAt.keeps HA.out hk)
              have HB := Lib.hid (MatAt.keeps HB.out hk)
              have HC := Lib.hid (MatAt.keeps HC.out hk)
              have HV := Lib.hid (SeqAt.keeps HV.out hk)
              have HL := Lib.hid (SeqAt.keeps HL.out hk)
              have HAB5 := Lib.hid (MatAt.keeps HAB5.out hk)
              have HK : Hid (Keeps w w32) := HK.out.call hk (Nat.le_refl _)
              clear hk
              by_cases hvc : (vecM b v).2 = 0
              ·
                obtain ⟨U, X, hU, hX, hY⟩ := order_vec MA.out (HNA.out ▸ HAB.out) hvc
                rw [EAB.out] at hY
                have EU := Lib.hid hU
                have EX := Lib.hid hX
                have EY := Lib.hid hY
                have hte := strB_same X
                clear hU hX hY hvc
                go_wp2_with fail
                refine Calls.mono (gaveR (matvec_any _ _ b v w32 HB.out HV.out) EU.out) ?_
                rintro e w33 ⟨v6, rfl, hH6, hk⟩
                have HA := Lib.hid (MatAt.keeps HA.out hk)
                have HB := Lib.hid (MatAt.keeps HB.out hk)
                have HC := Lib.hid (MatAt.keeps HC.out hk)
                have HV := Lib.hid (SeqAt.keeps HV.out hk)
                have HL := Lib.hid (SeqAt.keeps HL.out hk)
                have HAB5 := Lib.hid (MatAt.keeps HAB5.out hk)
                have HK : Hid (Keeps w w33) := HK.out.call hk (Nat.le_refl _)
                clear hk
                have H6 := Lib.hid (SeqIn.at_ hH6)
                clear hH6
                go_wp2_with fail
                refine Calls.mono (gaveR (matvec_any _ _ a U w33 HA.out H6.out) EX.out) ?_
                rintro e w34 ⟨v7, rfl, hH7, hk⟩
                have HA := Lib.hid (MatAt.keeps HA.out hk)
                have HB := Lib.hid (MatAt.keeps HB.out hk)
                have HC := Lib.hid (MatAt.keeps HC.out hk)
                have HV := Lib.hid (SeqAt.keeps HV.out hk)
                have HL := Lib.hid (SeqAt.keeps HL.out hk)
                have HAB5 := Lib.hid (MatAt.keeps HAB5.out hk)
                have H6 := Lib.hid (SeqAt.keeps H6.out hk)
                have HK : Hid (Keeps w w34) := HK.out.call hk (Nat.le_refl _)
                clear hk
                have H7 := Lib.hid (SeqIn.at_ hH7)
                clear hH7
                go_wp2_with fail
                refine Calls.mono (gaveR (matvec_any _ _ AB v w34 HAB5.out HV.out) EY.out) ?_
                rintro e w35 ⟨v8, rfl, hH8, hk⟩
                have HA := Lib.hid (MatAt.keeps HA.out hk)
                have HB := Lib.hid (MatAt.keeps HB.out hk)
                have HC := Lib.hid (MatAt.keeps HC.out hk)
                have HV := Lib.hid (SeqAt.keeps HV.out hk)
                have HL := Lib.hid (SeqAt.keeps HL.out hk)
                have HAB5 := Lib.hid (MatAt.keeps HAB5.out hk)
                have H6 := Lib.hid (SeqAt.keeps H6.out hk)
                have H7 := Lib.hid (SeqAt.keeps H7.out hk)
                have HK : Hid (Keeps w w35) := HK.out.call hk (Nat.le_refl _)
                clear hk
                have H8 := Lib.hid (SeqIn.at_ hH8)
                clear hH8
                have cv7 := conv8 H7.out 0
                have cv8 := conv8 H8.out 0
                change (convert _ _ _).run _ w35 = .ok _ w35 at cv7 cv8
                go_wp2_with fail
                clear cv7 cv8 hte
                by_cases hbc : nb = c.length
                ·
                  obtain ⟨P, BC, hP, hBC, hQ⟩ := order_all MA.out MB.out MC.out (HNA.out ▸ HAB.out) (HNB.out ▸ hbc)
                  rw [EAB.out] at hP
                  have EP := Lib.hid hP
                  have EBC := Lib.hid hBC
                  have EQ := Lib.hid hQ
                  clear hP hBC hQ hbc
                  go_wp2_with fail
                  refine Calls.mono (gave (matmul_any _ _ AB c w35 HAB5.out HC.out) EP.out) ?_
                  rintro e w36 ⟨v10, rfl, hH10, hk⟩
                  have HA := Lib.hid (MatAt.keeps HA.out hk)
                  have HB := Lib.hid (MatAt.keeps HB.out hk)
                  have HC := Lib.hid (MatAt.keeps HC.out hk)
                  have HV := Lib.hid (SeqAt.keeps HV.out hk)
                  have HL := Lib.hid (SeqAt.keeps HL.out hk)
                  have HAB5 := Lib.hid (MatAt.keeps HAB5.out hk)
                  have H6 := Lib.hid (SeqAt.keeps H6.out hk)
                  have H7 := Lib.hid (SeqAt.keeps H7.out hk)
                  have H8 := Lib.hid (SeqAt.keeps H8.out hk)
                  have HK : Hid (Keeps w w36) := HK.out.call hk (Nat.le_refl _)
                  clear hk
                  have H10 := Lib.hid hH10.at_
                  clear hH10
                  go_wp2_with fail
                  refine Calls.mono (gave (matmul_any _ _ b c w36 HB.out HC.out) EBC.out) ?_
                  rintro e w37 ⟨v11, rfl, hH11, hk⟩
                  have HA := Lib.hid (MatAt.keeps HA.out hk)
                  have HB := Lib.hid (MatAt.keeps HB.out hk)
                  have HC := Lib.hid (MatAt.keeps HC.out hk)
                  have HV := Lib.hid (SeqAt.keeps HV.out hk)
                  have HL := Lib.hid (SeqAt.keeps HL.out hk)
                  have HAB5 := Lib.hid (MatAt.keeps HAB5.out hk)
                  have H6 := Lib.hid (SeqAt.keeps H6.out hk)
                  have H7 := Lib.hid (SeqAt.keeps H7.out hk)
                  have H8 := Lib.hid (SeqAt.keeps H8.out hk)
                  have H10 := Lib.hid (MatAt.keeps H10.out hk)
                  have HK : Hid (Keeps w w37) := HK.out.call hk (Nat.le_refl _)
                  clear hk
                  have H11 := Lib.hid hH11.at_
                  clear hH11
                  go_wp2_with fail
                  refine Calls.mono (gave (matmul_any _ _ a BC w37 HA.out H11.out) EQ.out) ?_
                  rintro e w38 ⟨v12, rfl, hH12, hk⟩
                  have HA := Lib.hid (MatAt.keeps HA.out hk)
                  have HB := Lib.hid (MatAt.keeps HB.out hk)
                  have HC := Lib.hid (MatAt.keeps HC.out hk)
                  have HV := Lib.hid (SeqAt.keeps HV.out hk)
                  have HL := Lib.hid (SeqAt.keeps HL.out hk)
                  have HAB5 := Lib.hid (MatAt.keeps HAB5.out hk)
                  have H6 := Lib.hid (SeqAt.keeps H6.out hk)
                  have H7 := Lib.hid (SeqAt.keeps H7.out hk)
                  have H8 := Lib.hid (SeqAt.keeps H8.out hk)
                  have H10 := Lib.hid (MatAt.keeps H10.out hk)
                  have H11 := Lib.hid (MatAt.keeps H11.out hk)
                  have HK : Hid (Keeps w w38) := HK.out.call hk (Nat.le_refl _)
                  clear hk
                  have H12 := Lib.hid hH12.at_
                  clear hH12
                  go_wp2_with fail
                  refine Calls.mono (kept (matsame_yes _ _ P P w38 H10.out H12.out rfl)) ?_
                  rintro e w39 ⟨rfl, hk⟩
                  have HA := Lib.hid (MatAt.keeps HA.out hk)
                  have HB := Lib.hid (MatAt.keeps HB.out hk)
                  have HC := Lib.hid (MatAt.keeps HC.out hk)
                  have HV := Lib.hid (SeqAt.keeps HV.out hk)
                  have HL := Lib.hid (SeqAt.keeps HL.out hk)
                  have HAB5 := Lib.hid (MatAt.keeps HAB5.out hk)
                  have H6 := Lib.hid (SeqAt.keeps H6.out hk)
                  have H7 := Lib.hid (SeqAt.keeps H7.out hk)
                  have H8 := Lib.hid (SeqAt.keeps H8.out hk)
                  have H10 := Lib.hid (MatAt.keeps H10.out hk)
                  have H11 := Lib.hid (MatAt.keeps H11.out hk)
                  have H12 := Lib.hid (MatAt.keeps H12.out hk)
                  have HK : Hid (Keeps w w39) := HK.out.call hk (Nat.le_refl _)
                  clear hk
                  go_wp2
                  go_ret
                  exact ⟨rfl, HK.out⟩
                ·
                  have EP : Hid (mulM AB c = ([], 4)) := mulM_no (fun e => hbc (CAB.out.symm.trans e))
                  have hne : ((nb : Int) != (c.length : Int)) = true := by rw [bne_iff_ne]; omega
                  go_wp2_with fail
                  refine Calls.mono (gave (matmul_any _ _ AB c w35 HAB5.out HC.out) EP.out) ?_
                  rintro e w40 ⟨v10, rfl, hH10, hk⟩
                  have HA := Lib.hid (MatAt.keeps HA.out hk)
                  have HB := Lib.hid (MatAt.keeps HB.out hk)
                  have HC := Lib.hid (MatAt.keeps HC.out hk)
                  have HV := Lib.hid (SeqAt.keeps HV.out hk)
                  have HL := Lib.hid (SeqAt.keeps HL.out hk)
                  have HAB5 := Lib.hid (MatAt.keeps HAB5.out hk)
                  have H6 := Lib.hid (SeqAt.keeps H6.out hk)
                  have H7 := Lib.hid (SeqAt.keeps H7.out hk)
                  have H8 := Lib.hid (SeqAt.keeps H8.out hk)
                  have HK : Hid (Keeps w w40) := HK.out.call hk (Nat.le_refl _)
                  clear hk
                  have H10 := Lib.hid hH10.at_
                  clear hH10
                  obtain ⟨b2, o2, ea⟩ := mat_addr HAB5.out i2
                  subst ea
                  obtain ⟨p2, q2, d2⟩ := row0y HAB5.out i2
                  rw [CAB.out] at d2
                  go_wp2
                  go_ret
                  exact ⟨rfl, HK.out⟩
              ·
                have EU := Lib.hid (vecM_no hvc)
                clear hvc
                go_wp2_with fail
                refine Calls.mono (gaveR (matvec_any _ _ b v w32 HB.out HV.out) EU.out) ?_
                rintro e w41 ⟨v6, rfl, hH6, hk⟩
                have HA := Lib.hid (MatAt.keeps HA.out hk)
                have HB := Lib.hid (MatAt.keeps HB.out hk)
                have HC := Lib.hid (MatAt.keeps HC.out hk)
                have HV := Lib.hid (SeqAt.keeps HV.out hk)
                have HL := Lib.hid (SeqAt.keeps HL.out hk)
                have HAB5 := Lib.hid (MatAt.keeps HAB5.out hk)
                have HK : Hid (Keeps w w41) := HK.out.call hk (Nat.le_refl _)
                clear hk
                have H6 := Lib.hid (SeqIn.at_ hH6)
                clear hH6
                by_cases hbc : nb = c.length
                ·
                  obtain ⟨P, BC, hP, hBC, hQ⟩ := order_all MA.out MB.out MC.out (HNA.out ▸ HAB.out) (HNB.out ▸ hbc)
                  rw [EAB.out] at hP
                  have EP := Lib.hid hP
                  have EBC := Lib.hid hBC
                  have EQ := Lib.hid hQ
                  clear hP hBC hQ hbc
                  go_wp2_with fail
                  refine Calls.mono (gave (matmul_any _ _ AB c w41 HAB5.out HC.out) EP.out) ?_
                  rintro e w42 ⟨v10, rfl, hH10, hk⟩
                  have HA := Lib.hid (MatAt.keeps HA.out hk)
                  have HB := Lib.hid (MatAt.keeps HB.out hk)
                  have HC := Lib.hid (MatAt.keeps HC.out hk)
                  have HV := Lib.hid (SeqAt.keeps HV.out hk)
                  have HL := Lib.hid (SeqAt.keeps HL.out hk)
                  have HAB5 := Lib.hid (MatAt.keeps HAB5.out hk)
                  have H6 := Lib.hid (SeqAt.keeps H6.out hk)
                  have HK : Hid (Keeps w w42) := HK.out.call hk (Nat.le_refl _)
                  clear hk
                  have H10 := Lib.hid hH10.at_
                  clear hH10
                  go_wp2_with fail
                  refine Calls.mono (gave (matmul_any _ _ b c w42 HB.out HC.out) EBC.out) ?_
                  rintro e w43 ⟨v11, rfl, hH11, hk⟩
                  have HA := Lib.hid (MatAt.keeps HA.out hk)
                  have HB := Lib.hid (MatAt.keeps HB.out hk)
                  have HC := Lib.hid (MatAt.keeps HC.out hk)
                  have HV := Lib.hid (SeqAt.keeps HV.out hk)
                  have HL := Lib.hid (SeqAt.keeps HL.out hk)
                  have HAB5 := Lib.hid (MatAt.keeps HAB5.out hk)
                  have H6 := Lib.hid (SeqAt.keeps H6.out hk)
                  have H10 := Lib.hid (MatAt.keeps H10.out hk)
                  have HK : Hid (Keeps w w43) := HK.out.call hk (Nat.le_refl _)
                  clear hk
                  have H11 := Lib.hid hH11.at_
                  clear hH11
                  go_wp2_with fail
                  refine Calls.mono (gave (matmul_any _ _ a BC w43 HA.out H11.out) EQ.out) ?_
                  rintro e w44 ⟨v12, rfl, hH12, hk⟩
                  have HA := Lib.hid (MatAt.keeps HA.out hk)
                  have HB := Lib.hid (MatAt.keeps HB.out hk)
                  have HC := Lib.hid (MatAt.keeps HC.out hk)
                  have HV := Lib.hid (SeqAt.keeps HV.out hk)
                  have HL := Lib.hid (SeqAt.keeps HL.out hk)
                  have HAB5 := Lib.hid (MatAt.keeps HAB5.out hk)
                  have H6 := Lib.hid (SeqAt.keeps H6.out hk)
                  have H10 := Lib.hid (MatAt.keeps H10.out hk)
                  have H11 := Lib.hid (MatAt.keeps H11.out hk)
                  have HK : Hid (Keeps w w44) := HK.out.call hk (Nat.le_refl _)
                  clear hk
                  have H12 := Lib.hid hH12.at_
                  clear hH12
                  go_wp2_with fail
                  refine Calls.mono (kept (matsame_yes _ _ P P w44 H10.out H12.out rfl)) ?_
                  rintro e w45 ⟨rfl, hk⟩
                  have HA := Lib.hid (MatAt.keeps HA.out hk)
                  have HB := Lib.hid (MatAt.keeps HB.out hk)
                  have HC := Lib.hid (MatAt.keeps HC.out hk)
                  have HV := Lib.hid (SeqAt.keeps HV.out hk)
                  have HL := Lib.hid (SeqAt.keeps HL.out hk)
                  have HAB5 := Lib.hid (MatAt.keeps HAB5.out hk)
                  have H6 := Lib.hid (SeqAt.keeps H6.out hk)
                  have H10 := Lib.hid (MatAt.keeps H10.out hk)
                  have H11 := Lib.hid (MatAt.keeps H11.out hk)
                  have H12 := Lib.hid (MatAt.keeps H12.out hk)
                  have HK : Hid (Keeps w w45) := HK.out.call hk (Nat.le_refl _)
                  clear hk
                  go_wp2
                  go_ret
                  exact ⟨rfl, HK.out⟩
                ·
                  have EP : Hid (mulM AB c = ([], 4)) := mulM_no (fun e => hbc (CAB.out.symm.trans e))
                  have hne : ((nb : Int) != (c.length : Int)) = true := by rw [bne_iff_ne]; omega
                  go_wp2_with fail
                  refine Calls.mono (gave (matmul_any _ _ AB c w41 HAB5.out HC.out) EP.out) ?_
                  rintro e w46 ⟨v10, rfl, hH10, hk⟩
                  have HA := Lib.hid (MatAt.keeps HA.out hk)
                  have HB := Lib.hid (MatAt.keeps HB.out hk)
                  have HC := Lib.hid (MatAt.keeps HC.out hk)
                  have HV := Lib.hid (SeqAt.keeps HV.out hk)
                  have HL := Lib.hid (SeqAt.keeps HL.out hk)
                  have HAB5 := Lib.hid (MatAt.keeps HAB5.out hk)
                  have H6 := Lib.hid (SeqAt.keeps H6.out hk)
                  have HK : Hid (Keeps w w46) := HK.out.call hk (Nat.le_refl _)
                  clear hk
                  have H10 := Lib.hid hH10.at_
                  clear hH10
                  obtain ⟨b2, o2, ea⟩ := mat_addr HAB5.out i2
                  subst ea
                  obtain ⟨p2, q2, d2⟩ := row0y HAB5.out i2
                  rw [CAB.out] at d2
                  go_wp2
                  go_ret
                  exact ⟨rfl, HK.out⟩
            ·
              obtain ⟨E, hE, hT, hS⟩ := order_bad MA.out MAB.out LAB.out.symm hr
              have ET := Lib.hid hT
              have ES := Lib.hid hS
              have e0 : (E == 0) = false := beq_eq_false_iff_ne.2 hE
              have e1 : (E != E) = false := by simp
              clear hT hS hr hE
              go_enter Try.func13, Try.ntmps13
              go_wp2_with fail
              refine Calls.mono (works_any w) ?_
              rintro e w47 ⟨rfl, hk⟩
              have HA := Lib.hid (MatAt.keeps HA.out hk)
              have HB := Lib.hid (MatAt.keeps HB.out hk)
              have HC := Lib.hid (MatAt.keeps HC.out hk)
              have HV := Lib.hid (SeqAt.keeps HV.out hk)
              have HL := Lib.hid (SeqAt.keeps HL.out hk)
              have HK : Hid (Keeps w w47) := HK.out.call hk (Nat.le_refl _)
              clear hk
              go_wp2_with fail
              refine Calls.mono (may_yes _ a w47 HA.out MA.out) ?_
              rintro e w48 ⟨rfl, hk⟩
              have HA := Lib.hid (MatAt.keeps HA.out hk)
              have HB := Lib.hid (MatAt.keeps HB.out hk)
              have HC := Lib.hid (MatAt.keeps HC.out hk)
              have HV := Lib.hid (SeqAt.keeps HV.out hk)
              have HL := Lib.hid (SeqAt.keeps HL.out hk)
              have HK : Hid (Keeps w w48) := HK.out.call hk (Nat.le_refl _)
              clear hk
              go_wp2_with fail
              refine Calls.mono (may_yes _ b w48 HB.out MB.out) ?_
              rintro e w49 ⟨rfl, hk⟩
              have HA := Lib.hid (MatAt.keeps HA.out hk)
              have HB := Lib.hid (MatAt.keeps HB.out hk)
              have HC := Lib.hid (MatAt.keeps HC.out hk)
              have HV := Lib.hid (SeqAt.keeps HV.out hk)
              have HL := Lib.hid (SeqAt.keeps HL.out hk)
              have HK : Hid (Keeps w w49) := HK.out.call hk (Nat.le_refl _)
              clear hk
              go_wp2_with fail
              refine Calls.mono (may_yes _ c w49 HC.out MC.out) ?_
              rintro e w50 ⟨rfl, hk⟩
              have HA := Lib.hid (MatAt.keeps HA.out hk)
              have HB := Lib.hid (MatAt.keeps HB.out hk)
              have HC := Lib.hid (MatAt.keeps HC.out hk)
              have HV := Lib.hid (SeqAt.keeps HV.out hk)
              have HL := Lib.hid (SeqAt.keeps HL.out hk)
              have HK : Hid (Keeps w w50) := HK.out.call hk (Nat.le_refl _)
              clear hk
              go_wp2_with fail
              refine Calls.mono (gave (matone_any (a.length : Int) w50) EL.out) ?_
              rintro e w51 ⟨v1, rfl, hH1, hk⟩
              have HA := Lib.hid (MatAt.keeps HA.out hk)
              have HB := Lib.hid (MatAt.keeps HB.out hk)
              have HC := Lib.hid (MatAt.keeps HC.out hk)
              have HV := Lib.hid (SeqAt.keeps HV.out hk)
              have HL := Lib.hid (SeqAt.keeps HL.out hk)
              have HK : Hid (Keeps w w51) := HK.out.call hk (Nat.le_refl _)
              clear hk
              have H1 := Lib.hid hH1.at_
              clear hH1
              obtain ⟨p1, q1, d1⟩ := row0y HA.out i1
              rw [← HNA.out] at d1
              go_wp2_with fail
              refine Calls.mono (gave (matone_any (na : Int) w51) ER.out) ?_
              rintro e w52 ⟨v2, rfl, hH2, hk⟩
              have HA := Lib.hid (MatAt.keeps HA.out hk)
              have HB := Lib.hid (MatAt.keeps HB.out hk)
              have HC := Lib.hid (MatAt.keeps HC.out hk)
              have HV := Lib.hid (SeqAt.keeps HV.out hk)
              have HL := Lib.hid (SeqAt.keeps HL.out hk)
              have H1 := Lib.hid (MatAt.keeps H1.out hk)
              have HK : Hid (Keeps w w52) := HK.out.call hk (Nat.le_refl _)
              clear hk
              have H2 := Lib.hid hH2.at_
              clear hH2
              clear d1
              go_wp2_with fail
              refine Calls.mono (gave (matmul_any _ _ L a w52 H1.out HA.out) ELa.out) ?_
              rintro e w53 ⟨v3, rfl, hH3, hk⟩
              have HA := Lib.hid (MatAt.keeps HA.out hk)
              have HB := Lib.hid (MatAt.keeps HB.out hk)
              have HC := Lib.hid (MatAt.keeps HC.out hk)
              have HV := Lib.hid (SeqAt.keeps HV.out hk)
              have HL := Lib.hid (SeqAt.keeps HL.out hk)
              have H1 := Lib.hid (MatAt.keeps H1.out hk)
              have H2 := Lib.hid (MatAt.keeps H2.out hk)
              have HK : Hid (Keeps w w53) := HK.out.call hk (Nat.le_refl _)
              clear hk
              have H3 := Lib.hid hH3.at_
              clear hH3
              go_wp2_with fail
              refine Calls.mono (gave (matmul_any _ _ a R w53 HA.out H2.out) EaR.out) ?_
              rintro e w54 ⟨v4, rfl, hH4, hk⟩
              have HA := Lib.hid (MatAt.keeps HA.out hk)
              have HB := Lib.hid (MatAt.keeps HB.out hk)
              have HC := Lib.hid (MatAt.keeps HC.out hk)
              have HV := Lib.hid (SeqAt.keeps HV.out hk)
              have HL := Lib.hid (SeqAt.keeps HL.out hk)
              have H1 := Lib.hid (MatAt.keeps H1.out hk)
              have H2 := Lib.hid (MatAt.keeps H2.out hk)
              have H3 := Lib.hid (MatAt.keeps H3.out hk)
              have HK : Hid (Keeps w w54) := HK.out.call hk (Nat.le_refl _)
              clear hk
              have H4 := Lib.hid hH4.at_
              clear hH4
              go_wp2_with fail
              refine Calls.mono (kept (matsame_yes _ _ a a w54 H3.out HA.out rfl)) ?_
              rintro e w55 ⟨rfl, hk⟩
              have HA := Lib.hid (MatAt.keeps HA.out hk)
              have HB := Lib.hid (MatAt.keeps HB.out hk)
              have HC := Lib.hid (MatAt.keeps HC.out hk)
              have HV := Lib.hid (SeqAt.keeps HV.out hk)
              have HL := Lib.hid (SeqAt.keeps HL.out hk)
              have H4 := Lib.hid (MatAt.keeps H4.out hk)
              have HK : Hid (Keeps w w55) := HK.out.call hk (Nat.le_refl _)
              clear hk
              go_wp2_with fail
              refine Calls.mono (kept (matsame_yes _ _ a a w55 H4.out HA.out rfl)) ?_
              rintro e w56 ⟨rfl, hk⟩
              have HA := Lib.hid (MatAt.keeps HA.out hk)
              have HB := Lib.hid (MatAt.keeps HB.out hk)
              have HC := Lib.hid (MatAt.keeps HC.out hk)
              have HV := Lib.hid (SeqAt.keeps HV.out hk)
              have HL := Lib.hid (SeqAt.keeps HL.out hk)
              have HK : Hid (Keeps w w56) := HK.out.call hk (Nat.le_refl _)
              clear hk
              go_wp2_with fail
              refine Calls.mono (gave (matmul_any _ _ a b w56 HA.out HB.out) EAB.out) ?_
              rintro e w57 ⟨v5, rfl, hHAB5, hk⟩
              have HA := Lib.hid (MatAt.keeps HA.out hk)
              have HB := Lib.hid (MatAt.keeps HB.out hk)
              have HC := Lib.hid (MatAt.keeps HC.out hk)
              have HV := Lib.hid (SeqAt.keeps HV.out hk)
              have HL := Lib.hid (SeqAt.keeps HL.out hk)
              have HK : Hid (Keeps w w57) := HK.out.call hk (Nat.le_refl _)
              clear hk
              have HAB5 := Lib.hid hHAB5.at_
              clear hHAB5
              obtain ⟨p5, q5, e5⟩ := seq_shape HAB5.out
              subst e5
              obtain ⟨p1, q1, d1⟩ := row0y HA.out i1
              rw [← HNA.out] at d1
              go_wp2_with fail
              refine Calls.mono (gave (matrows_any _ _ a l w57 HA.out HL.out) ET.out) ?_
              rintro e w58 ⟨v13, rfl, hH13, hk⟩
              have HA := Lib.hid (MatAt.keeps HA.out hk)
              have HB := Lib.hid (MatAt.keeps HB.out hk)
              have HC := Lib.hid (MatAt.keeps HC.out hk)
              have HV := Lib.hid (SeqAt.keeps HV.out hk)
              have HL := Lib.hid (SeqAt.keeps HL.out hk)
              have HAB5 := Lib.hid (MatAt.keeps HAB5.out hk)
              have HK : Hid (Keeps w w58) := HK.out.call hk (Nat.le_refl _)
              clear hk
              have H13 := Lib.hid hH13.at_
              clear hH13
              clear d1
              go_wp2_with fail
              refine Calls.mono (gave (matrows_any _ _ AB l w58 HAB5.out HL.out) ES.out) ?_
              rintro e w59 ⟨v14, rfl, hH14, hk⟩
              have HA := Lib.hid (MatAt.keeps HA.out hk)
              have HB := Lib.hid (MatAt.keeps HB.out hk)
              have HC := Lib.hid (MatAt.keeps HC.out hk)
              have HV := Lib.hid (SeqAt.keeps HV.out hk)
              have HL := Lib.hid (SeqAt.keeps HL.out hk)
              have HAB5 := Lib.hid (MatAt.keeps HAB5.out hk)
              have H13 := Lib.hid (MatAt.keeps H13.out hk)
              have HK : Hid (Keeps w w59) := HK.out.call hk (Nat.le_refl _)
              clear hk
              have H14 := Lib.hid hH14.at_
              clear hH14
              by_cases hvc : (vecM b v).2 = 0
              ·
                obtain ⟨U, X, hU, hX, hY⟩ := order_vec MA.out (HNA.out ▸ HAB.out) hvc
                rw [EAB.out] at hY
                have EU := Lib.hid hU
                have EX := Lib.hid hX
                have EY := Lib.hid hY
                have hte := strB_same X
                clear hU hX hY hvc
                go_wp2_with fail
                refine Calls.mono (gaveR (matvec_any _ _ b v w59 HB.out HV.out) EU.out) ?_
                rintro e w60 ⟨v6, rfl, hH6, hk⟩
                have HA := Lib.hid (MatAt.keeps HA.out hk)
                have HB := Lib.hid (MatAt.keeps HB.out hk)
                have HC := Lib.hid (MatAt.keeps HC.out hk)
                have HV := Lib.hid (SeqAt.keeps HV.out hk)
                have HL := Lib.hid (SeqAt.keeps HL.out hk)
                have HAB5 := Lib.hid (MatAt.keeps HAB5.out hk)
                have H13 := Lib.hid (MatAt.keeps H13.out hk)
                have H14 := Lib.hid (MatAt.keeps H14.out hk)
                have HK : Hid (Keeps w w60) := HK.out.call hk (Nat.le_refl _)
                clear hk
                have H6 := Lib.hid (SeqIn.at_ hH6)
                clear hH6
                go_wp2_with fail
                refine Calls.mono (gaveR (matvec_any _ _ a U w60 HA.out H6.out) EX.out) ?_
                rintro e w61 ⟨v7, rfl, hH7, hk⟩
                have HA := Lib.hid (MatAt.keeps HA.out hk)
                have HB := Lib.hid (MatAt.keeps HB.out hk)
                have HC := Lib.hid (MatAt.keeps HC.out hk)
                have HV := Lib.hid (SeqAt.keeps HV.out hk)
                have HL := Lib.hid (SeqAt.keeps HL.out hk)
                have HAB5 := Lib.hid (MatAt.keeps HAB5.out hk)
                have H13 := Lib.hid (MatAt.keeps H13.out hk)
                have H14 := Lib.hid (MatAt.keeps H14.out hk)
                have H6 := Lib.hid (SeqAt.keeps H6.out hk)
                have HK : Hid (Keeps w w61) := HK.out.call hk (Nat.le_refl _)
                clear hk
                have H7 := Lib.hid (SeqIn.at_ hH7)
                clear hH7
                go_wp2_with fail
                refine Calls.mono (gaveR (matvec_any _ _ AB v w61 HAB5.out HV.out) EY.out) ?_
                rintro e w62 ⟨v8, rfl, hH8, hk⟩
                have HA := Lib.hid (MatAt.keeps HA.out hk)
                have HB := Lib.hid (MatAt.keeps HB.out hk)
                have HC := Lib.hid (MatAt.keeps HC.out hk)
                have HV := Lib.hid (SeqAt.keeps HV.out hk)
                have HL := Lib.hid (SeqAt.keeps HL.out hk)
                have HAB5 := Lib.hid (MatAt.keeps HAB5.out hk)
                have H13 := Lib.hid (MatAt.keeps H13.out hk)
                have H14 := Lib.hid (MatAt.keeps H14.out hk)
                have H6 := Lib.hid (SeqAt.keeps H6.out hk)
                have H7 := Lib.hid (SeqAt.keeps H7.out hk)
                have HK : Hid (Keeps w w62) := HK.out.call hk (Nat.le_refl _)
                clear hk
                have H8 := Lib.hid (SeqIn.at_ hH8)
                clear hH8
                have cv7 := conv8 H7.out 0
                have cv8 := conv8 H8.out 0
                change (convert _ _ _).run _ w62 = .ok _ w62 at cv7 cv8
                go_wp2_with fail
                clear cv7 cv8 hte
                by_cases hbc : nb = c.length
                ·
                  obtain ⟨P, BC, hP, hBC, hQ⟩ := order_all MA.out MB.out MC.out (HNA.out ▸ HAB.out) (HNB.out ▸ hbc)
                  rw [EAB.out] at hP
                  have EP := Lib.hid hP
                  have EBC := Lib.hid hBC
                  have EQ := Lib.hid hQ
                  clear hP hBC hQ hbc
                  go_wp2_with fail
                  refine Calls.mono (gave (matmul_any _ _ AB c w62 HAB5.out HC.out) EP.out) ?_
                  rintro e w63 ⟨v10, rfl, hH10, hk⟩
                  have HA := Lib.hid (MatAt.keeps HA.out hk)
                  have HB := Lib.hid (MatAt.keeps HB.out hk)
                  have HC := Lib.hid (MatAt.keeps HC.out hk)
                  have HV := Lib.hid (SeqAt.keeps HV.out hk)
                  have HL := Lib.hid (SeqAt.keeps HL.out hk)
                  have HAB5 := Lib.hid (MatAt.keeps HAB5.out hk)
                  have H13 := Lib.hid (MatAt.keeps H13.out hk)
                  have H14 := Lib.hid (MatAt.keeps H14.out hk)
                  have H6 := Lib.hid (SeqAt.keeps H6.out hk)
                  have H7 := Lib.hid (SeqAt.keeps H7.out hk)
                  have H8 := Lib.hid (SeqAt.keeps H8.out hk)
                  have HK : Hid (Keeps w w63) := HK.out.call hk (Nat.le_refl _)
                  clear hk
                  have H10 := Lib.hid hH10.at_
                  clear hH10
                  go_wp2_with fail
                  refine Calls.mono (gave (matmul_any _ _ b c w63 HB.out HC.out) EBC.out) ?_
                  rintro e w64 ⟨v11, rfl, hH11, hk⟩
                  have HA := Lib.hid (MatAt.keeps HA.out hk)
                  have HB := Lib.hid (MatAt.keeps HB.out hk)
                  have HC := Lib.hid (MatAt.keeps HC.out hk)
                  have HV := Lib.hid (SeqAt.keeps HV.out hk)
                  have HL := Lib.hid (SeqAt.keeps HL.out hk)
                  have HAB5 := Lib.hid (MatAt.keeps HAB5.out hk)
                  have H13 := Lib.hid (MatAt.keeps H13.out hk)
                  have H14 := Lib.hid (MatAt.keeps H14.out hk)
                  have H6 := Lib.hid (SeqAt.keeps H6.out hk)
                  have H7 := Lib.hid (SeqAt.keeps H7.out hk)
                  have H8 := Lib.hid (SeqAt.keeps H8.out hk)
                  have H10 := Lib.hid (MatAt.keeps H10.out hk)
                  have HK : Hid (Keeps w w64) := HK.out.call hk (Nat.le_refl _)
                  clear hk
                  have H11 := Lib.hid hH11.at_
                  clear hH11
                  go_wp2_with fail
                  refine Calls.mono (gave (matmul_any _ _ a BC w64 HA.out H11.out) EQ.out) ?_
                  rintro e w65 ⟨v12, rfl, hH12, hk⟩
                  have HA := Lib.hid (MatAt.keeps HA.out hk)
                  have HB := Lib.hid (MatAt.keeps HB.out hk)
                  have HC := Lib.hid (MatAt.keeps HC.out hk)
                  have HV := Lib.hid (SeqAt.keeps HV.out hk)
                  have HL := Lib.hid (SeqAt.keeps HL.out hk)
                  have HAB5 := Lib.hid (MatAt.keeps HAB5.out hk)
                  have H13 := Lib.hid (MatAt.keeps H13.out hk)
                  have H14 := Lib.hid (MatAt.keeps H14.out hk)
                  have H6 := Lib.hid (SeqAt.keeps H6.out hk)
                  have H7 := Lib.hid (SeqAt.keeps H7.out hk)
                  have H8 := Lib.hid (SeqAt.keeps H8.out hk)
                  have H10 := Lib.hid (MatAt.keeps H10.out hk)
                  have H11 := Lib.hid (MatAt.keeps H11.out hk)
                  have HK : Hid (Keeps w w65) := HK.out.call hk (Nat.le_refl _)
                  clear hk
                  have H12 := Lib.hid hH12.at_
                  clear hH12
                  go_wp2_with fail
                  refine Calls.mono (kept (matsame_yes _ _ P P w65 H10.out H12.out rfl)) ?_
                  rintro e w66 ⟨rfl, hk⟩
                  have HA := Lib.hid (MatAt.keeps HA.out hk)
                  have HB := Lib.hid (MatAt.keeps HB.out hk)
                  have HC := Lib.hid (MatAt.keeps HC.out hk)
                  have HV := Lib.hid (SeqAt.keeps HV.out hk)
                  have HL := Lib.hid (SeqAt.keeps HL.out hk)
                  have HAB5 := Lib.hid (MatAt.keeps HAB5.out hk)
                  have H13 := Lib.hid (MatAt.keeps H13.out hk)
                  have H14 := Lib.hid (MatAt.keeps H14.out hk)
                  have H6 := Lib.hid (SeqAt.keeps H6.out hk)
                  have H7 := Lib.hid (SeqAt.keeps H7.out hk)
                  have H8 := Lib.hid (SeqAt.keeps H8.out hk)
                  have H10 := Lib.hid (MatAt.keeps H10.out hk)
                  have H11 := Lib.hid (MatAt.keeps H11.out hk)
                  have H12 := Lib.hid (MatAt.keeps H12.out hk)
                  have HK : Hid (Keeps w w66) := HK.out.call hk (Nat.le_refl _)
                  clear hk
                  go_wp2
                  go_ret
                  exact ⟨rfl, HK.out⟩
                ·
                  have EP : Hid (mulM AB c = ([], 4)) := mulM_no (fun e => hbc (CAB.out.symm.trans e))
                  have hne : ((nb : Int) != (c.length : Int)) = true := by rw [bne_iff_ne]; omega
                  go_wp2_with fail
                  refine Calls.mono (gave (matmul_any _ _ AB c w62 HAB5.out HC.out) EP.out) ?_
                  rintro e w67 ⟨v10, rfl, hH10, hk⟩
                  have HA := Lib.hid (MatAt.keeps HA.out hk)
                  have HB := Lib.hid (MatAt.keeps HB.out hk)
                  have HC := Lib.hid (MatAt.keeps HC.out hk)
                  have HV := Lib.hid (SeqAt.keeps HV.out hk)
                  have HL := Lib.hid (SeqAt.keeps HL.out hk)
                  have HAB5 := Lib.hid (MatAt.keeps HAB5.out hk)
                  have H13 := Lib.hid (MatAt.keeps H13.out hk)
                  have H14 := Lib.hid (MatAt.keeps H14.out hk)
                  have H6 := Lib.hid (SeqAt.keeps H6.out hk)
                  have H7 := Lib.hid (SeqAt.keeps H7.out hk)
                  have H8 := Lib.hid (SeqAt.keeps H8.out hk)
                  have HK : Hid (Keeps w w67) := HK.out.call hk (Nat.le_refl _)
                  clear hk
                  have H10 := Lib.hid hH10.at_
                  clear hH10
                  obtain ⟨b2, o2, ea⟩ := mat_addr HAB5.out i2
                  subst ea
                  obtain ⟨p2, q2, d2⟩ := row0y HAB5.out i2
                  rw [CAB.out] at d2
                  go_wp2
                  go_ret
                  exact ⟨rfl, HK.out⟩
              ·
                have EU := Lib.hid (vecM_no hvc)
                clear hvc
                go_wp2_with fail
                refine Calls.mono (gaveR (matvec_any _ _ b v w59 HB.out HV.out) EU.out) ?_
                rintro e w68 ⟨v6, rfl, hH6, hk⟩
                have HA := Lib.hid (MatAt.keeps HA.out hk)
                have HB := Lib.hid (MatAt.keeps HB.out hk)
                have HC := Lib.hid (MatAt.keeps HC.out hk)
                have HV := Lib.hid (SeqAt.keeps HV.out hk)
                have HL := Lib.hid (SeqAt.keeps HL.out hk)
                have HAB5 := Lib.hid (MatAt.keeps HAB5.out hk)
                have H13 := Lib.hid (MatAt.keeps H13.out hk)
                have H14 := Lib.hid (MatAt.keeps H14.out hk)
                have HK : Hid (Keeps w w68) := HK.out.call hk (Nat.le_refl _)
                clear hk
                have H6 := Lib.hid (SeqIn.at_ hH6)
                clear hH6
                by_cases hbc : nb = c.length
                ·
                  obtain ⟨P, BC, hP, hBC, hQ⟩ := order_all MA.out MB.out MC.out (HNA.out ▸ HAB.out) (HNB.out ▸ hbc)
                  rw [EAB.out] at hP
                  have EP := Lib.hid hP
                  have EBC := Lib.hid hBC
                  have EQ := Lib.hid hQ
                  clear hP hBC hQ hbc
                  go_wp2_with fail
                  refine Calls.mono (gave (matmul_any _ _ AB c w68 HAB5.out HC.out) EP.out) ?_
                  rintro e w69 ⟨v10, rfl, hH10, hk⟩
                  have HA := Lib.hid (MatAt.keeps HA.out hk)
                  have HB := Lib.hid (MatAt.keeps HB.out hk)
                  have HC := Lib.hid (MatAt.keeps HC.out hk)
                  have HV := Lib.hid (SeqAt.keeps HV.out hk)
                  have HL := Lib.hid (SeqAt.keeps HL.out hk)
                  have HAB5 := Lib.hid (MatAt.keeps HAB5.out hk)
                  have H13 := Lib.hid (MatAt.keeps H13.out hk)
                  have H14 := Lib.hid (MatAt.keeps H14.out hk)
                  have H6 := Lib.hid (SeqAt.keeps H6.out hk)
                  have HK : Hid (Keeps w w69) := HK.out.call hk (Nat.le_refl _)
                  clear hk
                  have H10 := Lib.hid hH10.at_
                  clear hH10
                  go_wp2_with fail
                  refine Calls.mono (gave (matmul_any _ _ b c w69 HB.out HC.out) EBC.out) ?_
                  rintro e w70 ⟨v11, rfl, hH11, hk⟩
                  have HA := Lib.hid (MatAt.keeps HA.out hk)
                  have HB := Lib.hid (MatAt.keeps HB.out hk)
                  have HC := Lib.hid (MatAt.keeps HC.out hk)
                  have HV := Lib.hid (SeqAt.keeps HV.out hk)
                  have HL := Lib.hid (SeqAt.keeps HL.out hk)
                  have HAB5 := Lib.hid (MatAt.keeps HAB5.out hk)
                  have H13 := Lib.hid (MatAt.keeps H13.out hk)
                  have H14 := Lib.hid (MatAt.keeps H14.out hk)
                  have H6 := Lib.hid (SeqAt.keeps H6.out hk)
                  have H10 := Lib.hid (MatAt.keeps H10.out hk)
                  have HK : Hid (Keeps w w70) := HK.out.call hk (Nat.le_refl _)
                  clear hk
                  have H11 := Lib.hid hH11.at_
                  clear hH11
                  go_wp2_with fail
                  refine Calls.mono (gave (matmul_any _ _ a BC w70 HA.out H11.out) EQ.out) ?_
                  rintro e w71 ⟨v12, rfl, hH12, hk⟩
                  have HA := Lib.hid (MatAt.keeps HA.out hk)
                  have HB := Lib.hid (MatAt.keeps HB.out hk)
                  have HC := Lib.hid (MatAt.keeps HC.out hk)
                  have HV := Lib.hid (SeqAt.keeps HV.out hk)
                  have HL := Lib.hid (SeqAt.keeps HL.out hk)
                  have HAB5 := Lib.hid (MatAt.keeps HAB5.out hk)
                  have H13 := Lib.hid (MatAt.keeps H13.out hk)
                  have H14 := Lib.hid (MatAt.keeps H14.out hk)
                  have H6 := Lib.hid (SeqAt.keeps H6.out hk)
                  have H10 := Lib.hid (MatAt.keeps H10.out hk)
                  have H11 := Lib.hid (MatAt.keeps H11.out hk)
                  have HK : Hid (Keeps w w71) := HK.out.call hk (Nat.le_refl _)
                  clear hk
                  have H12 := Lib.hid hH12.at_
                  clear hH12
                  go_wp2_with fail
                  refine Calls.mono (kept (matsame_yes _ _ P P w71 H10.out H12.out rfl)) ?_
                  rintro e w72 ⟨rfl, hk⟩
                  have HA := Lib.hid (MatAt.keeps HA.out hk)
                  have HB := Lib.hid (MatAt.keeps HB.out hk)
                  have HC := Lib.hid (MatAt.keeps HC.out hk)
                  have HV := Lib.hid (SeqAt.keeps HV.out hk)
                  have HL := Lib.hid (SeqAt.keeps HL.out hk)
                  have HAB5 := Lib.hid (MatAt.keeps HAB5.out hk)
                  have H13 := Lib.hid (MatAt.keeps H13.out hk)
                  have H14 := Lib.hid (MatAt.keeps H14.out hk)
                  have H6 := Lib.hid (SeqAt.keeps H6.out hk)
                  have H10 := Lib.hid (MatAt.keeps H10.out hk)
                  have H11 := Lib.hid (MatAt.keeps H11.out hk)
                  have H12 := Lib.hid (MatAt.keeps H12.out hk)
                  have HK : Hid (Keeps w w72) := HK.out.call hk (Nat.le_refl _)
                  clear hk
                  go_wp2
                  go_ret
                  exact ⟨rfl, HK.out⟩
                ·
                  have EP : Hid (mulM AB c = ([], 4)) := mulM_no (fun e => hbc (CAB.out.symm.trans e))
                  have hne : ((nb : Int) != (c.length : Int)) = true := by rw [bne_iff_ne]; omega
                  go_wp2_with fail
                  refine Calls.mono (gave (matmul_any _ _ AB c w68 HAB5.out HC.out) EP.out) ?_
                  rintro e w73 ⟨v10, rfl, hH10, hk⟩
                  have HA := Lib.hid (MatAt.keeps HA.out hk)
                  have HB := Lib.hid (MatAt.keeps HB.out hk)
                  have HC := Lib.hid (MatAt.keeps HC.out hk)
                  have HV := Lib.hid (SeqAt.keeps HV.out hk)
                  have HL := Lib.hid (SeqAt.keeps HL.out hk)
                  have HAB5 := Lib.hid (MatAt.keeps HAB5.out hk)
                  have H13 := Lib.hid (MatAt.keeps H13.out hk)
                  have H14 := Lib.hid (MatAt.keeps H14.out hk)
                  have H6 := Lib.hid (SeqAt.keeps H6.out hk)
                  have HK : Hid (Keeps w w73) := HK.out.call hk (Nat.le_refl _)
                  clear hk
                  have H10 := Lib.hid hH10.at_
                  clear hH10
                  obtain ⟨b2, o2, ea⟩ := mat_addr HAB5.out i2
                  subst ea
                  obtain ⟨p2, q2, d2⟩ := row0y HAB5.out i2
                  rw [CAB.out] at d2
                  go_wp2
                  go_ret
                  exact ⟨rfl, HK.out⟩
          ·
            have EAB : Hid (mulM a b = ([], 4)) := mulM_no (fun e => hab (HNA.out.trans e))
            have heq : ((na : Int) == (b.length : Int)) = false := beq_eq_false_iff_ne.2 (by omega)
            clear hab
            go_enter Try.func13, Try.ntmps13
            go_wp2_with fail
            refine Calls.mono (works_any w) ?_
            rintro e w74 ⟨rfl, hk⟩
            have HA := Lib.hid (MatAt.keeps HA.out hk)
            have HB := Lib.hid (MatAt.keeps HB.out hk)
            have HC := Lib.hid (MatAt.keeps HC.out hk)
            have HV := Lib.hid (SeqAt.keeps HV.out hk)
            have HL := Lib.hid (SeqAt.keeps HL.out hk)
            have HK : Hid (Keeps w w74) := HK.out.call hk (Nat.le_refl _)
            clear hk
            go_wp2_with fail
            refine Calls.mono (may_yes _ a w74 HA.out MA.out) ?_
            rintro e w75 ⟨rfl, hk⟩
            have HA := Lib.hid (MatAt.keeps HA.out hk)
            have HB := Lib.hid (MatAt.keeps HB.out hk)
            have HC := Lib.hid (MatAt.keeps HC.out hk)
            have HV := Lib.hid (SeqAt.keeps HV.out hk)
            have HL := Lib.hid (SeqAt.keeps HL.out hk)
            have HK : Hid (Keeps w w75) := HK.out.call hk (Nat.le_refl _)
            clear hk
            go_wp2_with fail
            refine Calls.mono (may_yes _ b w75 HB.out MB.out) ?_
            rintro e w76 ⟨rfl, hk⟩
            have HA := Lib.hid (MatAt.keeps HA.out hk)
            have HB := Lib.hid (MatAt.keeps HB.out hk)
            have HC := Lib.hid (MatAt.keeps HC.out hk)
            have HV := Lib.hid (SeqAt.keeps HV.out hk)
            have HL := Lib.hid (SeqAt.keeps HL.out hk)
            have HK : Hid (Keeps w w76) := HK.out.call hk (Nat.le_refl _)
            clear hk
            go_wp2_with fail
            refine Calls.mono (may_yes _ c w76 HC.out MC.out) ?_
            rintro e w77 ⟨rfl, hk⟩
            have HA := Lib.hid (MatAt.keeps HA.out hk)
            have HB := Lib.hid (MatAt.keeps HB.out hk)
            have HC := Lib.hid (MatAt.keeps HC.out hk)
            have HV := Lib.hid (SeqAt.keeps HV.out hk)
            have HL := Lib.hid (SeqAt.keeps HL.out hk)
            have HK : Hid (Keeps w w77) := HK.out.call hk (Nat.le_refl _)
            clear hk
            go_wp2_with fail
            refine Calls.mono (gave (matone_any (a.length : Int) w77) EL.out) ?_
            rintro e w78 ⟨v1, rfl, hH1, hk⟩
            have HA := Lib.hid (MatAt.keeps HA.out hk)
            have HB := Lib.hid (MatAt.keeps HB.out hk)
            have HC := Lib.hid (MatAt.keeps HC.out hk)
            have HV := Lib.hid (SeqAt.keeps HV.out hk)
            have HL := Lib.hid (SeqAt.keeps HL.out hk)
            have HK : Hid (Keeps w w78) := HK.out.call hk (Nat.le_refl _)
            clear hk
            have H1 := Lib.hid hH1.at_
            clear hH1
            obtain ⟨p1, q1, d1⟩ := row0y HA.out i1
            rw [← HNA.out] at d1
            go_wp2_with fail
            refine Calls.mono (gave (matone_any (na : Int) w78) ER.out) ?_
            rintro e w79 ⟨v2, rfl, hH2, hk⟩
            have HA := Lib.hid (MatAt.keeps HA.out hk)
            have HB := Lib.hid (MatAt.keeps HB.out hk)
            have HC := Lib.hid (MatAt.keeps HC.out hk)
            have HV := Lib.hid (SeqAt.keeps HV.out hk)
            have HL := Lib.hid (SeqAt.keeps HL.out hk)
            have H1 := Lib.hid (MatAt.keeps H1.out hk)
            have HK : Hid (Keeps w w79) := HK.out.call hk (Nat.le_refl _)
            clear hk
            have H2 := Lib.hid hH2.at_
            clear hH2
            clear d1
            go_wp2_with fail
            refine Calls.mono (gave (matmul_any _ _ L a w79 H1.out HA.out) ELa.out) ?_
            rintro e w80 ⟨v3, rfl, hH3, hk⟩
            have HA := Lib.hid (MatAt.keeps HA.out hk)
            have HB := Lib.hid (MatAt.keeps HB.out hk)
            have HC := Lib.hid (MatAt.keeps HC.out hk)
            have HV := Lib.hid (SeqAt.keeps HV.out hk)
            have HL := Lib.hid (SeqAt.keeps HL.out hk)
            have H1 := Lib.hid (MatAt.keeps H1.out hk)
            have H2 := Lib.hid (MatAt.keeps H2.out hk)
            have HK : Hid (Keeps w w80) := HK.out.call hk (Nat.le_refl _)
            clear hk
            have H3 := Lib.hid hH3.at_
            clear hH3
            go_wp2_with fail
            refine Calls.mono (gave (matmul_any _ _ a R w80 HA.out H2.out) EaR.out) ?_
            rintro e w81 ⟨v4, rfl, hH4, hk⟩
            have HA := Lib.hid (MatAt.keeps HA.out hk)
            have HB := Lib.hid (MatAt.keeps HB.out hk)
            have HC := Lib.hid (MatAt.keeps HC.out hk)
            have HV := Lib.hid (SeqAt.keeps HV.out hk)
            have HL := Lib.hid (SeqAt.keeps HL.out hk)
            have H1 := Lib.hid (MatAt.keeps H1.out hk)
            have H2 := Lib.hid (MatAt.keeps H2.out hk)
            have H3 := Lib.hid (MatAt.keeps H3.out hk)
            have HK : Hid (Keeps w w81) := HK.out.call hk (Nat.le_refl _)
            clear hk
            have H4 := Lib.hid hH4.at_
            clear hH4
            go_wp2_with fail
            refine Calls.mono (kept (matsame_yes _ _ a a w81 H3.out HA.out rfl)) ?_
            rintro e w82 ⟨rfl, hk⟩
            have HA := Lib.hid (MatAt.keeps HA.out hk)
            have HB := Lib.hid (MatAt.keeps HB.out hk)
            have HC := Lib.hid (MatAt.keeps HC.out hk)
            have HV := Lib.hid (SeqAt.keeps HV.out hk)
            have HL := Lib.hid (SeqAt.keeps HL.out hk)
            have H4 := Lib.hid (MatAt.keeps H4.out hk)
            have HK : Hid (Keeps w w82) := HK.out.call hk (Nat.le_refl _)
            clear hk
            go_wp2_with fail
            refine Calls.mono (kept (matsame_yes _ _ a a w82 H4.out HA.out rfl)) ?_
            rintro e w83 ⟨rfl, hk⟩
            have HA := Lib.hid (MatAt.keeps HA.out hk)
            have HB := Lib.hid (MatAt.keeps HB.out hk)
            have HC := Lib.hid (MatAt.keeps HC.out hk)
            have HV := Lib.hid (SeqAt.keeps HV.out hk)
            have HL := Lib.hid (SeqAt.keeps HL.out hk)
            have HK : Hid (Keeps w w83) := HK.out.call hk (Nat.le_refl _)
            clear hk
            go_wp2_with fail
            refine Calls.mono (gave (matmul_any _ _ a b w83 HA.out HB.out) EAB.out) ?_
            rintro e w84 ⟨v5, rfl, hHAB5, hk⟩
            have HA := Lib.hid (MatAt.keeps HA.out hk)
            have HB := Lib.hid (MatAt.keeps HB.out hk)
            have HC := Lib.hid (MatAt.keeps HC.out hk)
            have HV := Lib.hid (SeqAt.keeps HV.out hk)
            have HL := Lib.hid (SeqAt.keeps HL.out hk)
            have HK : Hid (Keeps w w84) := HK.out.call hk (Nat.le_refl _)
            clear hk
            have HAB5 := Lib.hid hHAB5.at_
            clear hHAB5
            obtain ⟨p1, q1, d1⟩ := row0y HA.out i1
            rw [← HNA.out] at d1
            go_wp2
            go_ret
            exact ⟨rfl, HK.out⟩
end Go.Proofs.Ytojdodbedemkoaa
