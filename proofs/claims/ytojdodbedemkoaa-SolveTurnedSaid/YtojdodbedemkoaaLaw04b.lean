/- The walk of the law on inverses of products. -/
import Derived.Test.YtojdodbedemkoaaSolLaw
import Derived.Test.YtojdodbedemkoaaTms
namespace Go.Proofs.Ytojdodbedemkoaa
open Go.RowKit
theorem long_small {m : List (List UInt8)} (h : longB m = false) : m.length ≤ 12 := by
  unfold longB at h
  rw [Bool.or_eq_false_iff] at h
  have := of_decide_eq_false h.1
  omega
theorem prod_call (va vb : Value) (a b : List (List UInt8)) (n : Nat) (w : World) (ha : MatAt w.heap va a) (hb : MatAt w.heap vb b) (hra : LA.Rect a n) (hrb : LA.Rect b n) (la : a.length = n) (lb : b.length = n) (h1 : 1 ≤ n) (h2 : n ≤ 12) :
    Calls Try.prog 44 #[va, vb] w fun e w' => ∃ v, e = .returned v ∧ MatAt w'.heap v (matOf n n (prodAt a b)) ∧ Keeps w w' := by
  refine (tms_any va vb a b n n w ha hb hra hrb lb h1 h1 (by omega) (by omega) (by omega) (by omega)).mono ?_
  rintro e w' ⟨v, rfl, hm, hk⟩
  rw [la] at hm
  exact ⟨v, rfl, hm.at_, hk⟩

set_option maxRecDepth 100000 in
set_option maxHeartbeats 4000000 in
theorem product_any (va : Value) (a : List (List UInt8)) (vb : Value) (b : List (List UInt8)) (w : World) (ha : MatAt w.heap va a) (hb : MatAt w.heap vb b) :
    Calls Try.prog 8 #[va, vb] w fun e w' => e = .returned (.bool true) ∧ Keeps w w' := by
  obtain ⟨pa, qa, rfl⟩ := seq_shape ha
  obtain ⟨pb, qb, rfl⟩ := seq_shape hb
  have HA := Lib.hid ha
  have HB := Lib.hid hb
  clear ha hb
  cases la : longB a with
  | true =>
    go_enter Try.func8, Try.ntmps8
    go_wp2_with fail
    refine Calls.mono (long_is _ a _ HA.out _ la) ?_
    rintro e w1 ⟨rfl, hk⟩
    have HK := Lib.hid hk
    clear hk
    go_wp2_with fail
    refine Calls.mono (awake_any _) ?_
    rintro e w2 ⟨rfl, hk⟩
    have HK : Hid (Keeps w w2) := HK.out.call hk (Nat.le_refl _)
    clear hk
    go_wp2
    go_ret
    exact ⟨rfl, HK.out⟩
  | false =>
  cases lb : longB b with
  | true =>
    go_enter Try.func8, Try.ntmps8
    go_wp2_with fail
    refine Calls.mono (long_is _ a _ HA.out _ la) ?_
    rintro e w1 ⟨rfl, hk⟩
    have HK := Lib.hid hk
    have HB := Lib.hid (HB.out.keeps hk)
    clear hk
    go_wp2_with fail
    refine Calls.mono (long_is _ b _ HB.out _ lb) ?_
    rintro e w2 ⟨rfl, hk⟩
    have HK : Hid (Keeps w w2) := HK.out.call hk (Nat.le_refl _)
    clear hk
    go_wp2_with fail
    refine Calls.mono (awake_any _) ?_
    rintro e w3 ⟨rfl, hk⟩
    have HK : Hid (Keeps w w3) := HK.out.call hk (Nat.le_refl _)
    clear hk
    go_wp2
    go_ret
    exact ⟨rfl, HK.out⟩
  | false =>
    have LGA := Lib.hid la
    have LGB := Lib.hid lb
    clear la lb
    go_enter Try.func8, Try.ntmps8
    go_wp2_with fail
    refine Calls.mono (long_is _ a _ HA.out _ LGA.out) ?_
    rintro e w1 ⟨rfl, hk⟩
    have HK := Lib.hid hk
    have HA := Lib.hid (HA.out.keeps hk)
    have HB := Lib.hid (HB.out.keeps hk)
    clear hk
    go_wp2_with fail
    refine Calls.mono (long_is _ b _ HB.out _ LGB.out) ?_
    rintro e w2 ⟨rfl, hk⟩
    have HK : Hid (Keeps w w2) := HK.out.call hk (Nat.le_refl _)
    have HA := Lib.hid (HA.out.keeps hk)
    have HB := Lib.hid (HB.out.keeps hk)
    clear hk
    go_wp2_with fail
    refine Calls.mono (awake_any _) ?_
    rintro e w3 ⟨rfl, hk⟩
    have HK : Hid (Keeps w w3) := HK.out.call hk (Nat.le_refl _)
    have HA := Lib.hid (HA.out.keeps hk)
    have HB := Lib.hid (HB.out.keeps hk)
    clear hk
    cases ma : mayB 255 a with
    | false =>
      have MA := Lib.hid ma
      clear ma
      go_wp2_with fail
      refine Calls.mono (refmay04_is _ a _ HA.out _ MA.out) ?_
      rintro e w4 ⟨rfl, hk⟩
      have HK : Hid (Keeps w w4) := HK.out.call hk (Nat.le_refl _)
      clear hk
      go_wp2
      go_ret
      exact ⟨rfl, HK.out⟩
    | true =>
    cases mb : mayB 255 b with
    | false =>
      have MA := Lib.hid ma
      have MB := Lib.hid mb
      clear ma mb
      go_wp2_with fail
      refine Calls.mono (refmay04_is _ a _ HA.out _ MA.out) ?_
      rintro e w4 ⟨rfl, hk⟩
      have HK : Hid (Keeps w w4) := HK.out.call hk (Nat.le_refl _)
      have HB := Lib.hid (HB.out.keeps hk)
      clear hk
      go_wp2_with fail
      refine Calls.mono (refmay04_is _ b _ HB.out _ MB.out) ?_
      rintro e w5 ⟨rfl, hk⟩
      have HK : Hid (Keeps w w5) := HK.out.call hk (Nat.le_refl _)
      clear hk
      go_wp2
      go_ret
      exact ⟨rfl, HK.out⟩
    | true =>
      obtain ⟨a1, a2, a3, a4, hRa⟩ := may_cols ma
      obtain ⟨b1, b2, b3, b4, hRb⟩ := may_cols mb
      have MA := Lib.hid ma
      have MB := Lib.hid mb
      have RA := Lib.hid hRa
      have RB := Lib.hid hRb
      have A1 := Lib.hid a1
      have B1 := Lib.hid b1
      clear ma mb hRa hRb
      obtain ⟨ba, oa, rfl⟩ := mat_addr HA.out (by omega)
      obtain ⟨bb, ob, rfl⟩ := mat_addr HB.out (by omega)
      have ia : (0 : Int) < (a.length : Int) := by omega
      have ib : (0 : Int) < (b.length : Int) := by omega
      go_wp2_with fail
      refine Calls.mono (refmay04_is _ a _ HA.out _ MA.out) ?_
      rintro e w4 ⟨rfl, hk⟩
      have HK : Hid (Keeps w w4) := HK.out.call hk (Nat.le_refl _)
      have HA := Lib.hid (HA.out.keeps hk)
      have HB := Lib.hid (HB.out.keeps hk)
      clear hk
      go_wp2_with fail
      refine Calls.mono (refmay04_is _ b _ HB.out _ MB.out) ?_
      rintro e w5 ⟨rfl, hk⟩
      have HK : Hid (Keeps w w5) := HK.out.call hk (Nat.le_refl _)
      have HA := Lib.hid (HA.out.keeps hk)
      have HB := Lib.hid (HB.out.keeps hk)
      clear hk
      obtain ⟨p0, q0, c0⟩ := row0y HA.out A1.out
      change w5.cell? _ = some (.slice p0 (colsN a) q0) at c0
      obtain ⟨p1, q1, c1⟩ := row0y HB.out B1.out
      change w5.cell? _ = some (.slice p1 (colsN b) q1) at c1
      by_cases sa : a.length = colsN a
      · by_cases sb : b.length = colsN b
        · by_cases sab : a.length = b.length
          · have n1 : ((a.length : Int) != (colsN a : Int)) = false := by rw [bne_eq_false_iff_eq]; omega
            have n2 : ((b.length : Int) != (colsN b : Int)) = false := by rw [bne_eq_false_iff_eq]; omega
            have n3 : ((a.length : Int) != (b.length : Int)) = false := by rw [bne_eq_false_iff_eq]; omega
            have SL := Lib.hid (long_small LGA.out)
            obtain ⟨n, hn⟩ : ∃ n, n = a.length := ⟨_, rfl⟩
            have hra : Hid (LA.Rect a n) := by show LA.Rect a n; rw [hn, sa]; exact RA.out
            have hrb : Hid (LA.Rect b n) := by show LA.Rect b n; rw [hn, sab, sb]; exact RB.out
            have hla : Hid (a.length = n) := hn.symm
            have hlb : Hid (b.length = n) := by show _ = _; omega
            have hn1 : Hid (1 ≤ n) := by show _ ≤ _; omega
            have hn2 : Hid (n ≤ 12) := by show _ ≤ _; rw [hn]; exact SL.out
            clear sa sb sab hn
            go_wp2_with fail
            rcases product_cases hra.out hrb.out hla.out hlb.out hn1.out hn2.out with ⟨X, Y, t1, t2, t3, rx, ry, lx, ly⟩ | ⟨X, t1, t2, t3⟩ | ⟨Y, r, t1, t2, t3⟩
            · have T1 := Lib.hid t1
              have T2 := Lib.hid t2
              have T3 := Lib.hid t3
              have RX := Lib.hid rx
              have RY := Lib.hid ry
              have LX := Lib.hid lx
              have LY := Lib.hid ly
              clear t1 t2 t3 rx ry lx ly
              refine Calls.mono (gave (turn_any _ a _ HA.out) T1.out) ?_
              rintro e w6 ⟨vx, rfl, hm, hk⟩
              have HK : Hid (Keeps w w6) := HK.out.call hk (Nat.le_refl _)
              have HA := Lib.hid (HA.out.keeps hk)
              have HB := Lib.hid (HB.out.keeps hk)
              have HX : Hid (MatAt w6.heap vx X) := hm.at_
              clear hk hm c0 c1
              go_wp2_with fail
              refine Calls.mono (gave (turn_any _ b _ HB.out) T2.out) ?_
              rintro e w7 ⟨vy, rfl, hm, hk⟩
              have HK : Hid (Keeps w w7) := HK.out.call hk (Nat.le_refl _)
              have HA := Lib.hid (HA.out.keeps hk)
              have HB := Lib.hid (HB.out.keeps hk)
              have HX := Lib.hid (HX.out.keeps hk)
              have HY : Hid (MatAt w7.heap vy Y) := hm.at_
              clear hk hm
              go_wp2_with fail
              refine Calls.mono (prod_call _ _ a b n _ HA.out HB.out hra.out hrb.out hla.out hlb.out hn1.out hn2.out) ?_
              rintro e w8 ⟨vm, rfl, hm, hk⟩
              have HK : Hid (Keeps w w8) := HK.out.call hk (Nat.le_refl _)
              have HX := Lib.hid (HX.out.keeps hk)
              have HY := Lib.hid (HY.out.keeps hk)
              have HM := Lib.hid hm
              clear hk hm
              go_wp2_with fail
              refine Calls.mono (gave (turn_any _ _ _ HM.out) T3.out) ?_
              rintro e w9 ⟨vz, rfl, hm, hk⟩
              have HK : Hid (Keeps w w9) := HK.out.call hk (Nat.le_refl _)
              have HX := Lib.hid (HX.out.keeps hk)
              have HY := Lib.hid (HY.out.keeps hk)
              have HZ : Hid (MatAt w9.heap vz (matOf n n (prodAt Y X))) := hm.at_
              clear hk hm HM
              go_wp2_with fail
              refine Calls.mono (prod_call _ _ Y X n _ HY.out HX.out RY.out RX.out LY.out LX.out hn1.out hn2.out) ?_
              rintro e w10 ⟨vp, rfl, hm, hk⟩
              have HK : Hid (Keeps w w10) := HK.out.call hk (Nat.le_refl _)
              have HZ := Lib.hid (HZ.out.keeps hk)
              have HP := Lib.hid hm
              clear hk hm
              go_wp2_with fail
              refine Calls.mono (same04_yes _ _ _ _ HZ.out HP.out) ?_
              rintro e w11 ⟨rfl, hk⟩
              have HK : Hid (Keeps w w11) := HK.out.call hk (Nat.le_refl _)
              clear hk
              go_wp2
              go_ret
              exact ⟨rfl, HK.out⟩
            · have T1 := Lib.hid t1
              have T2 := Lib.hid t2
              have T3 := Lib.hid t3
              clear t1 t2 t3
              refine Calls.mono (gave (turn_any _ a _ HA.out) T1.out) ?_
              rintro e w6 ⟨vx, rfl, hm, hk⟩
              have HK : Hid (Keeps w w6) := HK.out.call hk (Nat.le_refl _)
              have HA := Lib.hid (HA.out.keeps hk)
              have HB := Lib.hid (HB.out.keeps hk)
              clear hk hm c0 c1
              go_wp2_with fail
              refine Calls.mono (gave (turn_any _ b _ HB.out) T2.out) ?_
              rintro e w7 ⟨vy, rfl, hm, hk⟩
              have HK : Hid (Keeps w w7) := HK.out.call hk (Nat.le_refl _)
              have HA := Lib.hid (HA.out.keeps hk)
              have HB := Lib.hid (HB.out.keeps hk)
              clear hk hm
              go_wp2_with fail
              refine Calls.mono (prod_call _ _ a b n _ HA.out HB.out hra.out hrb.out hla.out hlb.out hn1.out hn2.out) ?_
              rintro e w8 ⟨vm, rfl, hm, hk⟩
              have HK : Hid (Keeps w w8) := HK.out.call hk (Nat.le_refl _)
              have HM := Lib.hid hm
              clear hk hm
              go_wp2_with fail
              refine Calls.mono (gave (turn_any _ _ _ HM.out) T3.out) ?_
              rintro e w9 ⟨vz, rfl, hm, hk⟩
              have HK : Hid (Keeps w w9) := HK.out.call hk (Nat.le_refl _)
              clear hk hm HM
              go_wp2
              go_ret
              exact ⟨rfl, HK.out⟩
            · have T1 := Lib.hid t1
              have T2 := Lib.hid t2
              have T3 := Lib.hid t3
              clear t1 t2 t3
              refine Calls.mono (gave (turn_any _ a _ HA.out) T1.out) ?_
              rintro e w6 ⟨vx, rfl, hm, hk⟩
              have HK : Hid (Keeps w w6) := HK.out.call hk (Nat.le_refl _)
              have HA := Lib.hid (HA.out.keeps hk)
              have HB := Lib.hid (HB.out.keeps hk)
              clear hk hm c0 c1
              go_wp2_with fail
              refine Calls.mono (gave (turn_any _ b _ HB.out) T2.out) ?_
              rintro e w7 ⟨vy, rfl, hm, hk⟩
              have HK : Hid (Keeps w w7) := HK.out.call hk (Nat.le_refl _)
              have HA := Lib.hid (HA.out.keeps hk)
              have HB := Lib.hid (HB.out.keeps hk)
              clear hk hm
              go_wp2_with fail
              refine Calls.mono (prod_call _ _ a b n _ HA.out HB.out hra.out hrb.out hla.out hlb.out hn1.out hn2.out) ?_
              rintro e w8 ⟨vm, rfl, hm, hk⟩
              have HK : Hid (Keeps w w8) := HK.out.call hk (Nat.le_refl _)
              have HM := Lib.hid hm
              clear hk hm
              go_wp2_with fail
              refine Calls.mono (gave (turn_any _ _ _ HM.out) T3.out) ?_
              rintro e w9 ⟨vz, rfl, hm, hk⟩
              have HK : Hid (Keeps w w9) := HK.out.call hk (Nat.le_refl _)
              clear hk hm HM
              go_wp2
              go_ret
              exact ⟨rfl, HK.out⟩
          · have n1 : ((a.length : Int) != (colsN a : Int)) = false := by rw [bne_eq_false_iff_eq]; omega
            have n2 : ((b.length : Int) != (colsN b : Int)) = false := by rw [bne_eq_false_iff_eq]; omega
            have n3 : ((a.length : Int) != (b.length : Int)) = true := by rw [bne_iff_ne]; omega
            clear sa sb sab
            go_wp2
            go_ret
            exact ⟨rfl, HK.out⟩
        · have n1 : ((a.length : Int) != (colsN a : Int)) = false := by rw [bne_eq_false_iff_eq]; omega
          have n2 : ((b.length : Int) != (colsN b : Int)) = true := by rw [bne_iff_ne]; omega
          clear sa sb
          go_wp2
          go_ret
          exact ⟨rfl, HK.out⟩
      · have n1 : ((a.length : Int) != (colsN a : Int)) = true := by rw [bne_iff_ne]; omega
        clear sa
        go_wp2
        go_ret
        exact ⟨rfl, HK.out⟩
end Go.Proofs.Ytojdodbedemkoaa
