/- The walk of the law on inverses of products. -/
import Derived.Test.YtojdodbedemkoaaSolLaw
import Derived.Test.YtojdodbedemkoaaTms
namespace Go.Proofs.Ytojdodbedemkoaa
open Go.RowKit
theorem long_small {m : List (List UInt8)} (h : longB m = false) : m.length ≤ 12 := by
  unfold longB at h
  rw [Bool.or_eq_false_iff] at h
  have := of_decide_eq_false h.1
  omega
theorem prod_call (va vb : Value) (a b : List (List UInt8)) (n : Nat) (w : World) (ha : MatAt w.heap va a) (hb : MatAt w.heap vb b) (hra : LA.Rect a n) (hrb : LA.Rect b n) (la : a.length = n) (lb : b.length = n) (h1 : 1 ≤ n) (h2 : n ≤ 12) :
    Calls Try.prog 44 #[va, vb] w fun e w' => ∃ v, e = .returned v ∧ MatAt w'.heap v (matOf n n (prodAt a b)) ∧ Keeps w w' := by
  refine (tms_any va vb a b n n w ha hb hra hrb lb h1 h1 (by omega) (by omega) (by omega) (by omega)).mono ?_
  rintro e w' ⟨v, rfl, hm, hk⟩
  rw [la] at hm
  exact ⟨v, rfl, hm.at_, hk⟩

set_option maxRecDepth 100000 in
set_option maxHeartbeats 4000000 in
theorem product_any (va : Value) (a : List (List UInt8)) (vb : Value) (b : List (List UInt8)) (w : World) (ha : MatAt w.heap va a) (hb : MatAt w.heap vb b) :
    Calls Try.prog 8 #[va, vb] w fun e w' => e = .returned (.bool true) ∧ Keeps w w' := by
  obtain ⟨pa, qa, rfl⟩ := seq_shape ha
  obtain ⟨pb, qb, rfl⟩ := seq_shape hb
  have HA := Lib.hid ha
  have HB := Lib.hid hb
  clear ha hb
  cases la : longB a with
  | true =>
    go_enter Try.func8, Try.ntmps8
    go_wp2_with fail
    refine Calls.mono (long_is _ a _ HA.out _ la) ?_
    rintro e w1 ⟨rfl, hk⟩
    have HK := Lib.hid hk
    clear hk
    go_wp2_with fail
    refine Calls.mono (awake_any _) ?_
    rintro e w2 ⟨rfl, hk⟩
    have HK : Hid (Keeps w w2) := HK.out.call hk (Nat.le_refl _)
    clear hk
    go_wp2
    go_ret
    exact ⟨rfl, HK.out⟩
  | false =>
  cases lb : longB b with
  | true =>
    go_enter Try.func8, Try.ntmps8
    go_wp2_with fail
    refine Calls.mono (long_is _ a _ HA.out _ la) ?_
    rintro e w1 ⟨rfl, hk⟩
    have HK := Lib.hid hk
    have HB := Lib.hid (HB.out.keeps hk)
    clear hk
    go_wp2_with fail
    refine Calls.mono (long_is _ b _ HB.out _ lb) ?_
    rintro e w2 ⟨rfl, hk⟩
    have HK : Hid (Keeps w w2) := HK.out.call hk (Nat.le_refl _)
    clear hk
    go_wp2_with fail
    refine Calls.mono (awake_any _) ?_
    rintro e w3 ⟨rfl, hk⟩
    have HK : Hid (Keeps w w3) := HK.out.call hk (Nat.le_refl _)
    clear hk
    go_wp2
    go_ret
    exact ⟨rfl, HK.out⟩
  | false =>
    have LGA := Lib.hid la
    have LGB := Lib.hid lb
    clear la lb
    go_enter Try.func8, Try.ntmps8
    go_wp2_with fail
    refine Calls.mono (long_is _ a _ HA.out _ LGA.out) ?_
    rintro e w1 ⟨rfl, hk⟩
    have HK := Lib.hid hk
    have HA := Lib.hid (HA.out.keeps hk)
    have HB := Lib.hid (HB.out.keeps hk)
    clear hk
    go_wp2_with fail
    refine Calls.mono (long_is _ b _ HB.out _ LGB.out) ?_
    rintro e w2 ⟨rfl, hk⟩
    have HK : Hid (Keeps w w2) := HK.out.call hk (Nat.le_refl _)
    have HA := Lib.hid (HA.out.keeps hk)
    have HB := Lib.hid (HB.out.keeps hk)
    clear hk
    go_wp2_with fail
    refine Calls.mono (awake_any _) ?_
    rintro e w3 ⟨rfl, hk⟩
    have HK : Hid (Keeps w w3) := HK.out.call hk (Nat.le_refl _)
    have HA := Lib.hid (HA.out.keeps hk)
    have HB := Lib.hid (HB.out.keeps hk)
    clear hk
    cases ma : mayB 255 a with
    | false =>
      have MA := Lib.hid ma
      clear ma
      go_wp2_with fail
      refine Calls.mono (refmay04_is _ a _ HA.out _ MA.out) ?_
      rintro e w4 ⟨rfl, hk⟩
      have HK : Hid (Keeps w w4) := HK.out.call hk (Nat.le_refl _)
      clear hk
      go_wp2
      go_ret
      exact ⟨rfl, HK.out⟩
    | true =>
    cases mb : mayB 255 b with
    | false =>
      have MA := Lib.hid ma
      have MB := Lib.hid mb
      clear ma mb
      go_wp2_with fail
      refine Calls.mono (refmay04_is _ a _ HA.out _ MA.out) ?_
      rintro e w4 ⟨rfl, hk⟩
      have HK : Hid (Keeps w w4) := HK.out.call hk (Nat.le_refl _)
      have HB := Lib.hid (HB.out.keeps hk)
      clear hk
      go_wp2_with fail
      refine Calls.mono (refmay04_is _ b _ HB.out _ MB.out) ?_
      rintro e w5 ⟨rfl, hk⟩
      have HK : Hid (Keeps w w5) := HK.out.call hk (Nat.le_refl _)
      clear hk
      go_wp2
      go_ret
      exact ⟨rfl, HK.out⟩
    | true =>
      obtain ⟨a1, a2, a3, a4, hRa⟩ := may_cols ma
      obtain ⟨b1, b2, b3, b4, hRb⟩ := may_cols mb
      have MA := Lib.hid ma
      have MB := Lib.hid mb
      have RA := Lib.hid hRa
      have RB := Lib.hid hRb
      have A1 := Lib.hid a1
      have B1 := Lib.hid b1
      clear ma mb hRa hRb
      obtain ⟨ba, oa, rfl⟩ := mat_addr HA.out (by omega)
      obtain ⟨bb, ob, rfl⟩ := mat_addr HB.out (by omega)
      have ia : (0 : Int) < (a.length : Int) := by omega
      have ib : (0 : Int) < (b.length : Int) := by omega
      go_wp2_with fail
      refine Calls.mono (refmay04_is _ a _ HA.out _ MA.out) ?_
      rintro e w4 ⟨rfl, hk⟩
      have HK : Hid (Keeps w w4) := HK.out.call hk (Nat.le_refl _)
      have HA := Lib.hid (HA.out.keeps hk)
      have HB := Lib.hid (HB.out.keeps hk)
      clear hk
      go_wp2_with fail
      refine Calls.mono (refmay04_is _ b _ HB.out _ MB.out) ?_
      rintro e w5 ⟨rfl, hk⟩
      have HK : Hid (Keeps w w5) := HK.out.call hk (Nat.le_refl _)
      have HA := Lib.hid (HA.out.keeps hk)
      have HB := Lib.hid (HB.out.keeps hk)
      clear hk
      obtain ⟨p0, q0, c0⟩ := row0y HA.out A1.out
      change w5.cell? _ = some (.slice p0 (colsN a) q0) at c0
      obtain ⟨p1, q1, c1⟩ := row0y HB.out B1.out
      change w5.cell? _ = some (.slice p1 (colsN b) q1) at c1
      by_cases sa : a.length = colsN a
      · by_cases sb : b.length = colsN b
        · by_cases sab : a.length = b.length
          · have n1 : ((a.length : Int) != (colsN a : Int)) = false := by rw [bne_eq_false_iff_eq]; omega
            have n2 : ((b.length : Int) != (colsN b : Int)) = false := by rw [bne_eq_false_iff_eq]; omega
            have n3 : ((a.length : Int) != (b.length : Int)) = false := by rw [bne_eq_false_iff_eq]; omega
            have SL := Lib.hid (long_small LGA.out)
            obtain ⟨n, hn⟩ : ∃ n, n = a.length := ⟨_, rfl⟩
            have hra : Hid (LA.Rect a n) := by show LA.Rect a n; rw [hn, sa]; exact RA.out
            have hrb : Hid (LA.Rect b n) := by show LA.Rect b n; rw [hn, sab, sb]; exact RB.out
            have hla : Hid (a.length = n) := hn.symm
            have hlb : Hid (b.length = n) := by show _ = _; omega
            have hn1 : Hid (1 ≤ n) := by show _ ≤ _; omega
            have hn2 : Hid (n ≤ 12) := by show _ ≤ _; rw [hn]; exact SL.out
            clear sa sb sab hn
            go_wp2_with fail
            rcases product_cases hra.out hrb.out hla.out hlb.out hn1.out hn2.out with ⟨X, Y, t1, t2, t3, rx, ry, lx, ly⟩ | ⟨X, t1, t2, t3⟩ | ⟨Y, r, t1, t2, t3⟩
            · have T1 := Lib.hid t1
              have T2 := Lib.hid t2
              have T3 := Lib.hid t3
              have RX := Lib.hid rx
              have RY := Lib.hid ry
              have LX := Lib.hid lx
              have LY := Lib.hid ly
              clear t1 t2 t3 rx ry lx ly
              refine Calls.mono (gave (turn_any _ a _ HA.out) T1.out) ?_
              rintro e w6 ⟨vx, rfl, hm, hk⟩
              have HK : Hid (Keeps w w6) := HK.out.call hk (Nat.le_refl _)
              have HA := Lib.hid (HA.out.keeps hk)
              have HB := Lib.hid (HB.out.keeps hk)
              have HX : Hid (MatAt w6.heap vx X) := hm.at_
              clear hk hm c0 c1
              go_wp2_with fail
              refine Calls.mono (gave (turn_any _ b _ HB.out) T2.out) ?_
              rintro e w7 ⟨vy, rfl, hm, hk⟩
              have HK : Hid (Keeps w w7) := HK.out.call hk (Nat.le_refl _)
              have HA := Lib.hid (HA.out.keeps hk)
              have HB := Lib.hid (HB.out.keeps hk)
              have HX := Lib.hid (HX.out.keeps hk)
              have HY : Hid (MatAt w7.heap vy Y) := hm.at_
              clear hk hm
              go_wp2_with fail
              refine Calls.mono (prod_call _ _ a b n _ HA.out HB.out hra.out hrb.out hla.out hlb.out hn1.out hn2.out) ?_
              rintro e w8 ⟨vm, rfl, hm, hk⟩
              have HK : Hid (Keeps w w8) := HK.out.call hk (Nat.le_refl _)
              have HX := Lib.hid (HX.out.keeps hk)
              have HY := Lib.hid (HY.out.keeps hk)
              have HM := Lib.hid hm
              clear hk hm
              go_wp2_with fail
              refine Calls.mono (gave (turn_any _ _ _ HM.out) T3.out) ?_
              rintro e w9 ⟨vz, rfl, hm, hk⟩
              have HK : Hid (Keeps w w9) := HK.out.call hk (Nat.le_refl _)
              have HX := Lib.hid (HX.out.keeps hk)
              have HY := Lib.hid (HY.out.keeps hk)
              have HZ : Hid (MatAt w9.heap vz (matOf n n (prodAt Y X))) := hm.at_
              clear hk hm HM
              go_wp2_with fail
              refine Calls.mono (prod_call _ _ Y X n _ HY.out HX.out RY.out RX.out LY.out LX.out hn1.out hn2.out) ?_
              rintro e w10 ⟨vp, rfl, hm, hk⟩
              have HK : Hid (Keeps w w10) := HK.out.call hk (Nat.le_refl _)
              have HZ := Lib.hid (HZ.out.keeps hk)
              have HP := Lib.hid hm
              clear hk hm
              go_wp2_with fail
              refine Calls.mono (same04_yes _ _ _ _ HZ.out HP.out) ?_
              rintro e w11 ⟨rfl, hk⟩
              have HK : Hid (Keeps w w11) := HK.out.call hk (Nat.le_refl _)
              clear hk
              go_wp2
              go_ret
              exact ⟨rfl, HK.out⟩
            · have T1 := Lib.hid t1
              have T2 := Lib.hid t2
              have T3 := Lib.hid t3
              clear t1 t2 t3
              refine Calls.mono (gave (turn_any _ a _ HA.out) T1.out) ?_
              rintro e w6 ⟨vx, rfl, hm, hk⟩
              have HK : Hid (Keeps w w6) := HK.out.call hk (Nat.le_refl _)
              have HA := Lib.hid (HA.out.keeps hk)
              have HB := Lib.hid (HB.out.keeps hk)
              clear hk hm c0 c1
              go_wp2_with fail
              refine Calls.mono (gave (turn_any _ b _ HB.out) T2.out) ?_
              rintro e w7 ⟨vy, rfl, hm, hk⟩
              have HK : Hid (Keeps w w7) := HK.out.call hk (Nat.le_refl _)
              have HA := Lib.hid (HA.out.keeps hk)
              have HB := Lib.hid (HB.out.keeps hk)
              clear hk hm
              go_wp2_with fail
              refine Calls.mono (prod_call _ _ a b n _ HA.out HB.out hra.out hrb.out hla.out hlb.out hn1.out hn2.out) ?_
              rintro e w8 ⟨vm, rfl, hm, hk⟩
              have HK : Hid (Keeps w w8) := HK.out.call hk (Nat.le_refl _)
              have HM := Lib.hid hm
              clear hk hm
              go_wp2_with fail
              refine Calls.mono (gave (turn_any _ _ _ HM.out) T3.out) ?_
              rintro e w9 ⟨vz, rfl, hm, hk⟩
              have HK : Hid (Keeps w w9) := HK.out.call hk (Nat.le_refl _)
              clear hk hm HM
              go_wp2
              go_ret
              exact ⟨rfl, HK.out⟩
            · have T1 := Lib.hid t1
              have T2 := Lib.hid t2
              have T3 := Lib.hid t3
              clear t1 t2 t3
              refine Calls.mono (gave (turn_any _ a _ HA.out) T1.out) ?_
              rintro e w6 ⟨vx, rfl, hm, hk⟩
              have HK : Hid (Keeps w w6) := HK.out.call hk (Nat.le_refl _)
              have HA := Lib.hid (HA.out.keeps hk)
              have HB := Lib.hid (HB.out.keeps hk)
              clear hk hm c0 c1
              go_wp2_with fail
              refine Calls.mono (gave (turn_any _ b _ HB.out) T2.out) ?_
              rintro e w7 ⟨vy, rfl, hm, hk⟩
              have HK : Hid (Keeps w w7) := HK.out.call hk (Nat.le_refl _)
              have HA := Lib.hid (HA.out.keeps hk)
              have HB := Lib.hid (HB.out.keeps hk)
              clear hk hm
              go_wp2_with fail
              refine Calls.mono (prod_call _ _ a b n _ HA.out HB.out hra.out hrb.out hla.out hlb.out hn1.out hn2.out) ?_
              rintro e w8 ⟨vm, rfl, hm, hk⟩
              have HK : Hid (Keeps w w8) := HK.out.call hk (Nat.le_refl _)
              have HM := Lib.hid hm
              clear hk hm
              go_wp2_with fail
              refine Calls.mono (gave (turn_any _ _ _ HM.out) T3.out) ?_
              rintro e w9 ⟨vz, rfl, hm, hk⟩
              have HK : Hid (Keeps w w9) := HK.out.call hk (Nat.le_refl _)
              clear hk hm HM
              go_wp2
              go_ret
              exact ⟨rfl, HK.out⟩
          · have n1 : ((a.length : Int) != (colsN a : Int)) = false := by rw [bne_eq_false_iff_eq]; omega
            have n2 : ((b.length : Int) != (colsN b : Int)) = false := by rw [bne_eq_false_iff_eq]; omega
            have n3 : ((a.length : Int) != (b.length : Int)) = true := by rw [bne_iff_ne]; omega
            clear sa sb sab
            go_wp2
            go_ret
            exact ⟨rfl, HK.out⟩
        · have n1 : ((a.length : Int) != (colsN a : Int)) = false := by rw [bne_eq_false_iff_eq]; omega
          have n2 : ((b.length : Int) != (colsN b : Int)) = true := by rw [bne_iff_ne]; omega
          clear sa sb
          go_wp2
          go_ret
          exact ⟨rfl, HK.out⟩
      · have n1 : ((a.length : Int) != (colsN a : Int)) = true := by rw [bne_iff_ne]; omega
        clear sa
        go_wp2
        go_ret
        exact ⟨rfl, HK.out⟩
end Go.Proofs.Ytojdodbedemkoaa
/- The walk of the law's own test on 1. -/
namespace Go.Proofs.Ytojdodbedemkoaa
open Go.RowKit
set_option maxRecDepth 100000 in
set_option maxHeartbeats 4000000 in
theorem one_yes (va : Value) (n : Nat) (w : World) (h1 : 1 ≤ n) (h2 : n ≤ 255) (ha : MatAt w.heap va (matOf n n oneAt)) : Calls Try.prog 43 #[va] w fun e w' => e = .returned (.bool true) ∧ Keeps w w' := by
  obtain ⟨pa, qa, rfl⟩ := seq_shape ha
  rw [matOf_length] at *
  obtain ⟨ba, oa, rfl⟩ := mat_addr ha (by rw [matOf_length]; omega)
  have HA := Lib.hid ha
  clear ha
  go_enter Try.func43, Try.ntmps43
  go_wp2
  go_loopw [3] (fun i wr => ∃ k : Nat, k ≤ n ∧ i = .int .i64 k ∧ ∃ q, wr = w.drewN q) (fun i _ => n - (intOf i).toNat)
  case atStart => exact ⟨0, by omega, rfl, 0, rfl⟩
  case round =>
    obtain ⟨k, hk, rfl, q, rfl⟩ := hrel
    by_cases hkl : k < n
    · have hkI : (k : Int) < (n : Int) := by omega
      have HAq : Hid (MatAt (w.drewN q).heap (.slice (some ⟨ba, oa, none⟩) n qa) (matOf n n oneAt)) := HA
      obtain ⟨b1, o1, q1, r1, rs⟩ := row_cells HAq.out (matOf_rect n n oneAt) h1 (i := k) (by rw [matOf_length]; omega)
      have HRS := Lib.hid rs
      clear rs
      go_wp2
      go_loopw [4] (fun c wr => ∃ j : Nat, j ≤ n ∧ c = .int .i64 j ∧ ∃ q, wr = w.drewN q) (fun c _ => n - (intOf c).toNat)
      case atStart => exact ⟨0, by omega, rfl, q, rfl⟩
      case round =>
        obtain ⟨j, hj, rfl, q', rfl⟩ := hrel
        have r1 : (w.drewN q').cell? ⟨ba, oa + k, none⟩ = some (.slice (some ⟨b1, o1, none⟩) n q1) := r1
        by_cases hjl : j < n
        · have hjI : (j : Int) < (n : Int) := by omega
          have cj := HRS.out j hjl
          rw [at_matOf _ hkl hjl] at cj
          have cj : (w.drewN q').cell? ⟨b1, o1 + j, none⟩ = some (.int .u8 ((oneAt k j).toNat : Int)) := cj
          by_cases e : k = j
          · have e1 : ((k : Int) == (j : Int)) = true := by rw [beq_iff_eq]; omega
            have eo : oneAt k j = 1 := by unfold oneAt; rw [if_pos e]
            rw [eo] at cj
            change World.cell? _ _ = some (.int .u8 1) at cj
            clear e eo
            go_wp2
            exact ⟨⟨j + 1, by omega, rfl, q', rfl⟩, by simp [intOf]; omega⟩
          · have e1 : ((k : Int) == (j : Int)) = false := beq_eq_false_iff_ne.2 (by omega)
            have eo : oneAt k j = 0 := by unfold oneAt; rw [if_neg e]
            rw [eo] at cj
            change World.cell? _ _ = some (.int .u8 0) at cj
            clear e eo
            go_wp2
            exact ⟨⟨j + 1, by omega, rfl, q', rfl⟩, by simp [intOf]; omega⟩
        · obtain rfl : j = n := by omega
          go_wp2
          exact ⟨⟨k + 1, by omega, rfl, q', rfl⟩, by simp [intOf]; omega⟩
    · obtain rfl : k = n := by omega
      go_wp2
      go_ret
      exact ⟨rfl, keeps_refl w⟩
end Go.Proofs.Ytojdodbedemkoaa
/- The walk of the law on inverses. -/
namespace Go.Proofs.Ytojdodbedemkoaa
open Go.RowKit
theorem ones_call (va vb : Value) (a b : List (List UInt8)) (n : Nat) (w : World) (ha : MatAt w.heap va a) (hb : MatAt w.heap vb b) (hra : LA.Rect a n) (hrb : LA.Rect b n) (la : a.length = n) (lb : b.length = n) (h1 : 1 ≤ n) (h2 : n ≤ 12)
    (he : matOf n n (prodAt a b) = matOf n n oneAt) :
    Calls Try.prog 44 #[va, vb] w fun e w' => ∃ v, e = .returned v ∧ MatAt w'.heap v (matOf n n oneAt) ∧ Keeps w w' := he ▸ prod_call va vb a b n w ha hb hra hrb la lb h1 h2
theorem col_call (va vb : Value) (a : List (List UInt8)) (P : List UInt8) (n : Nat) (w : World) (ha : MatAt w.heap va a) (hb : MatAt w.heap vb (colM P)) (hra : LA.Rect a n) (la : a.length = n) (lb : P.length = n) (h1 : 1 ≤ n) (h2 : n ≤ 12) :
    Calls Try.prog 44 #[va, vb] w fun e w' => ∃ v, e = .returned v ∧ MatAt w'.heap v (matOf n 1 (prodAt a (colM P))) ∧ Keeps w w' := by
  refine (tms_any va vb a (colM P) n 1 w ha hb hra (colM_rect P) (by rw [colM_length, lb]) h1 (Nat.le_refl _) (by omega) (by omega) (by omega) (by omega)).mono ?_
  rintro e w' ⟨v, rfl, hm, hk⟩
  rw [la] at hm
  exact ⟨v, rfl, hm.at_, hk⟩
theorem colM_snoc (P : List UInt8) {k : Nat} (h : k < P.length) : colM (P.take (k + 1)) = colM (P.take k) ++ [[P.getD k 0]] := by
  have e : P.take (k + 1) = P.take k ++ [P[k]] := (List.take_append_getElem h).symm
  rw [e, List.getD_eq_getElem?_getD, List.getElem?_eq_getElem h]
  unfold colM
  rw [List.map_append]; rfl
set_option maxRecDepth 100000 in
set_option maxHeartbeats 4000000 in
theorem turned_any (va : Value) (m : List (List UInt8)) (vv : Value) (v : List UInt8) (w : World) (ha : MatAt w.heap va m) (hv : RowAt w.heap vv v) :
    Calls Try.prog 7 #[va, vv] w fun e w' => e = .returned (.bool true) ∧ Keeps w w' := by
  obtain ⟨pa, qa, rfl⟩ := seq_shape ha
  obtain ⟨pv, qv, rfl⟩ := seq_shape hv
  have HA := Lib.hid ha
  have HV := Lib.hid hv
  clear ha hv
  have HK : Hid (Keeps w w) := keeps_refl w
  cases la : longB m with
  | true =>
    go_enter Try.func7, Try.ntmps7
    go_wp2_with fail
    refine Calls.mono (long_is _ m _ HA.out _ la) ?_
    rintro e w1 ⟨rfl, hk⟩
    have HK : Hid (Keeps w w1) := HK.out.call hk (Nat.le_refl _)
    clear hk
    go_wp2_with fail
    refine Calls.mono (awake_any _) ?_
    rintro e w2 ⟨rfl, hk⟩
    have HK : Hid (Keeps w w2) := HK.out.call hk (Nat.le_refl _)
    clear hk
    go_wp2
    go_ret
    exact ⟨rfl, HK.out⟩
  | false =>
    have LGA := Lib.hid la
    clear la
    go_enter Try.func7, Try.ntmps7
    go_wp2_with fail
    refine Calls.mono (long_is _ m _ HA.out _ LGA.out) ?_
    rintro e w1 ⟨rfl, hk⟩
    have HK : Hid (Keeps w w1) := HK.out.call hk (Nat.le_refl _)
    have HA := Lib.hid (HA.out.keeps hk)
    have HV := Lib.hid (HV.out.keeps hk)
    clear hk
    go_wp2_with fail
    refine Calls.mono (awake_any _) ?_
    rintro e w2 ⟨rfl, hk⟩
    have HK : Hid (Keeps w w2) := HK.out.call hk (Nat.le_refl _)
    have HA := Lib.hid (HA.out.keeps hk)
    have HV := Lib.hid (HV.out.keeps hk)
    clear hk
    cases ma : mayB 255 m with
    | false =>
      have MA := Lib.hid ma
      have T : Hid (turnM m = ([], 4)) := by show _ = _; unfold turnM; rw [ma]; rfl
      clear ma
      go_wp2_with fail
      refine Calls.mono (gave (turn_any _ m _ HA.out) T.out) ?_
      rintro e w3 ⟨vx, rfl, _, hk⟩
      have HK : Hid (Keeps w w3) := HK.out.call hk (Nat.le_refl _)
      have HA := Lib.hid (HA.out.keeps hk)
      clear hk
      go_wp2_with fail
      refine Calls.mono (refmay04_is _ m _ HA.out _ MA.out) ?_
      rintro e w4 ⟨rfl, hk⟩
      have HK : Hid (Keeps w w4) := HK.out.call hk (Nat.le_refl _)
      clear hk
      go_wp2
      go_ret
      exact ⟨rfl, HK.out⟩
    | true =>
      obtain ⟨a1, a2, a3, a4, hRa⟩ := may_cols ma
      have MA := Lib.hid ma
      have RA := Lib.hid hRa
      have A1 := Lib.hid a1
      have SL := Lib.hid (long_small LGA.out)
      obtain ⟨ba, oa, rfl⟩ := mat_addr HA.out (by omega)
      have ia : (0 : Int) < (m.length : Int) := by omega
      clear hRa
      by_cases sa : m.length = colsN m
      · obtain ⟨n, hn⟩ : ∃ n, n = m.length := ⟨_, rfl⟩
        have hra : Hid (LA.Rect m n) := by show LA.Rect m n; rw [hn, sa]; exact RA.out
        have hla : Hid (m.length = n) := hn.symm
        have hn1 : Hid (1 ≤ n) := by show _ ≤ _; omega
        have hn2 : Hid (n ≤ 12) := by show _ ≤ _; rw [hn]; exact SL.out
        have HN := Lib.hid hn
        clear ma sa a1 a2 a3 a4
        rcases turned_cases hra.out hla.out hn1.out (by have := hn2.out; omega) with ⟨X, t1, t2, t3, rx, lx, o1, o2, ht⟩ | ⟨d, hd, t1, t2⟩
        · have T1 := Lib.hid t1
          have T2 : Hid (rankM m = ((m.length : Int), 0)) := by show _ = _; rw [t2, hn]
          have T3 := Lib.hid t3
          have RX := Lib.hid rx
          have LX := Lib.hid lx
          have O1 := Lib.hid o1
          have O2 := Lib.hid o2
          have HTL := Lib.hid ht
          clear t1 t2 t3 rx lx o1 o2 ht hn
          go_wp2_with fail
          refine Calls.mono (gave (turn_any _ m _ HA.out) T1.out) ?_
          rintro e w3 ⟨vx, rfl, hm, hk⟩
          have HK : Hid (Keeps w w3) := HK.out.call hk (Nat.le_refl _)
          have HA := Lib.hid (HA.out.keeps hk)
          have HV := Lib.hid (HV.out.keeps hk)
          have HX : Hid (MatAt w3.heap vx X) := hm.at_
          clear hk hm
          go_wp2_with fail
          refine Calls.mono (gaveI (rank_any _ m _ HA.out) T2.out) ?_
          rintro e w4 ⟨rfl, hk⟩
          have HK : Hid (Keeps w w4) := HK.out.call hk (Nat.le_refl _)
          have HA := Lib.hid (HA.out.keeps hk)
          have HV := Lib.hid (HV.out.keeps hk)
          have HX := Lib.hid (HX.out.keeps hk)
          clear hk
          go_wp2_with fail
          refine Calls.mono (gave (turn_any _ X _ HX.out) T3.out) ?_
          rintro e w5 ⟨vb, rfl, hm, hk⟩
          have HK : Hid (Keeps w w5) := HK.out.call hk (Nat.le_refl _)
          have HA := Lib.hid (HA.out.keeps hk)
          have HV := Lib.hid (HV.out.keeps hk)
          have HX := Lib.hid (HX.out.keeps hk)
          have HB : Hid (MatAt w5.heap vb m) := hm.at_
          clear hk hm
          go_wp2_with fail
          refine Calls.mono (same04_yes _ _ m _ HB.out HA.out) ?_
          rintro e w6 ⟨rfl, hk⟩
          have HK : Hid (Keeps w w6) := HK.out.call hk (Nat.le_refl _)
          have HA := Lib.hid (HA.out.keeps hk)
          have HV := Lib.hid (HV.out.keeps hk)
          have HX := Lib.hid (HX.out.keeps hk)
          clear hk
          go_wp2_with fail
          refine Calls.mono (ones_call _ _ m X n _ HA.out HX.out hra.out RX.out hla.out LX.out hn1.out hn2.out O1.out) ?_
          rintro e w7 ⟨vp, rfl, hm, hk⟩
          have HK : Hid (Keeps w w7) := HK.out.call hk (Nat.le_refl _)
          have HA := Lib.hid (HA.out.keeps hk)
          have HV := Lib.hid (HV.out.keeps hk)
          have HX := Lib.hid (HX.out.keeps hk)
          have HP := Lib.hid hm
          clear hk hm
          go_wp2_with fail
          refine Calls.mono (one_yes _ n _ hn1.out (by have := hn2.out; omega) HP.out) ?_
          rintro e w8 ⟨rfl, hk⟩
          have HK : Hid (Keeps w w8) := HK.out.call hk (Nat.le_refl _)
          have HA := Lib.hid (HA.out.keeps hk)
          have HV := Lib.hid (HV.out.keeps hk)
          have HX := Lib.hid (HX.out.keeps hk)
          clear hk HP
          go_wp2_with fail
          refine Calls.mono (ones_call _ _ X m n _ HX.out HA.out RX.out hra.out LX.out hla.out hn1.out hn2.out O2.out) ?_
          rintro e w9 ⟨vq, rfl, hm, hk⟩
          have HK : Hid (Keeps w w9) := HK.out.call hk (Nat.le_refl _)
          have HA := Lib.hid (HA.out.keeps hk)
          have HV := Lib.hid (HV.out.keeps hk)
          have HP := Lib.hid hm
          clear hk hm
          go_wp2_with fail
          refine Calls.mono (one_yes _ n _ hn1.out (by have := hn2.out; omega) HP.out) ?_
          rintro e w10 ⟨rfl, hk⟩
          have HK : Hid (Keeps w w10) := HK.out.call hk (Nat.le_refl _)
          have HA := Lib.hid (HA.out.keeps hk)
          have HV := Lib.hid (HV.out.keeps hk)
          clear hk HP
          by_cases hvl : v.length = n
          · have hne : ((v.length : Int) != (m.length : Int)) = false := by rw [bne_eq_false_iff_eq]; have := hla.out; omega
            obtain ⟨P, s1, s2, s3⟩ := HTL.out v hvl
            have S1 := Lib.hid s1
            have S2 := Lib.hid s2
            have S3 := Lib.hid s3
            have HVL := Lib.hid hvl
            clear s1 s2 s3 hvl
            go_wp2_with fail
            refine Calls.mono (gaveR (solve_any _ _ m v _ HA.out HV.out) S1.out) ?_
            rintro e w11 ⟨vs, rfl, hm, hk⟩
            have HK : Hid (Keeps w w11) := HK.out.call hk (Nat.le_refl _)
            have HA := Lib.hid (HA.out.keeps hk)
            have HV := Lib.hid (HV.out.keeps hk)
            have hm : RowAt w11.heap vs P := SeqIn.at_ hm
            obtain ⟨ps, qs, rfl⟩ := seq_shape hm
            have HS := Lib.hid hm
            clear hk hm
            have hne2 : ((P.length : Int) != (v.length : Int)) = false := by rw [bne_eq_false_iff_eq]; have := HVL.out; have := S2.out; omega
            go_wp2_with fail
            go_loopw [11, 12] (fun c i wr => ∃ k : Nat, k ≤ P.length ∧ i = .int .i64 k ∧ Hid (OwnRows w11.heap.size wr c (colM (P.take k))) ∧ Hid (Keeps w11 wr)) (fun _ i _ => P.length - (intOf i).toNat)
            case atStart => exact ⟨0, by omega, rfl, OwnSeq.nil _ _ _ _, keeps_refl _⟩
            case round =>
              obtain ⟨k, hk, rfl, hR, hK⟩ := hrel
              by_cases hlt : k < P.length
              · have hkI : (k : Int) < (P.length : Int) := by omega
                obtain ⟨b1, o1, q1, e1, c1⟩ := row_cell (j := k) (HS.out.keeps hK.out) hlt
                injection e1 with e2 e3 e4
                subst e2 e4
                obtain ⟨us, hu1, hu2, hu3⟩ := hR.out
                have hul : us.length = k := by rw [hu2, colM_length, List.length_take]; omega
                have HU := Lib.hid hu1
                have HL2 := Lib.hid hu2
                have HL3 := Lib.hid hul
                have H3 := Lib.hid hu3
                have HSN := Lib.hid (colM_snoc P hlt)
                have HK12 : Hid (k ≤ 12) := by show _ ≤ _; have := S2.out; have := hn2.out; omega
                have hk12 := HK12.out
                have hsz := hK.out.size
                generalize P.getD k 0 = x at *
                clear hu1 hu2 hul hu3 e3
                have hrow : Hid (RowIn (w11.heap.size ≤ ·) (wr.alloc (.cells #[.int .u8 (x.toNat : Int)] 5)).heap (.slice (some ⟨wr.heap.size, 0, none⟩) 1 1) [x]) := by
                  refine ⟨_, 1, rfl, by simp, fun i hi => ?_⟩
                  have hi0 : i = 0 := by simp only [List.length_cons, List.length_nil] at hi; omega
                  subst hi0
                  refine ⟨wr.heap.size, 0, .int .u8 (x.toNat : Int), rfl, ⟨hsz, typH_new _ _ _⟩, ?_, ?_, rfl⟩
                  · rw [← froz_of, Nat.add_zero]; exact World.frozen?_alloc_new _ _ _ _
                  · rw [← cell_of, World.cell?_alloc_new]; rfl
                go_wp2_with (at_builtin; refine wp_app1 elRows rfl _ _ rfl w11.heap.size u11 us rfl ((HU.out.alloc _).alloc _) _ (.slice (some ⟨wr.heap.size, 0, none⟩) 1 1) rfl ?c1 rfl ?c2 ?c3 ?_)
                case c1 => simp [go_sem]
                case c2 => have := HL3.out; have := HK12.out; omega
                case c3 => simp; omega
                intro v' w12 hown hchg
                have ca : Chg (fun x => wr.heap.size ≤ x) wr ((wr.alloc (.cells #[.int .u8 (x.toNat : Int)] 5)).alloc (.cells #[.slice (some ⟨wr.heap.size, 0, none⟩) 1 1] 33)) := ((Chg.refl _ wr).alloc _).alloc _
                have hpush := OwnRows.push (m := colM (P.take k)) HL2.out H3.out ca (fun x hx _ _ h => by omega) hown hchg
                  (fun x hx => by
                    obtain ⟨_, h5, h6⟩ := own_block HU.out x hx
                    exact typH_chg (T := fun _ => False) (((Chg.refl _ wr).alloc _).alloc _) h6 (fun x => x))
                  (SeqIn.chg hrow.out (T := fun _ => False) ((Chg.refl _ _).alloc _) (fun _ _ _ _ x => x) fun _ _ _ x => x)
                have hk2 : Hid (Keeps w11 w12) := ((hK.out.chg.trans (ca.mono fun x _ hx => Nat.le_trans hsz hx)).trans (hchg.mono fun x _ hx => (own_block HU.out x hx).1)).keeps fun x hx h => by omega
                have HPU := Lib.hid hpush
                clear hown hchg hpush ca
                go_wp2
                exact ⟨⟨k + 1, by omega, by go_num, by have := HPU.out; rw [← HSN.out] at this; exact this, hk2⟩, by simp [intOf]; omega⟩
              · obtain rfl : k = P.length := by omega
                have hC : Hid (MatAt wr.heap u11 (colM P)) := by
                  have := (hR.out.mat (by rw [colM_length, List.length_take]; have := S2.out; have := hn2.out; omega)).at_
                  rw [List.take_length] at this; exact this
                have hk := hK.out
                have HK : Hid (Keeps w wr) := HK.out.call hk (Nat.le_refl _)
                have HA := Lib.hid (HA.out.keeps hk)
                have HV := Lib.hid (HV.out.keeps hk)
                clear hR hk
                go_wp2_with fail
                refine Calls.mono (col_call _ _ m P n _ HA.out hC.out hra.out hla.out S2.out hn1.out hn2.out) ?_
                rintro e w13 ⟨vm, rfl, hm, hk⟩
                have HK : Hid (Keeps w w13) := HK.out.call hk (Nat.le_refl _)
                have HV := Lib.hid (HV.out.keeps hk)
                obtain ⟨pm, qm, rfl⟩ := seq_shape hm
                obtain ⟨bm, om, rfl⟩ := mat_addr hm (by rw [matOf_length]; exact hn1.out)
                have HM := Lib.hid hm
                clear hk hm hC
                go_wp2_with fail
                go_loopw [14] (fun i wt => ∃ j : Nat, j ≤ v.length ∧ i = .int .i64 j ∧ ∃ q, wt = w13.drewN q) (fun i _ => v.length - (intOf i).toNat)
                case atStart => exact ⟨0, by omega, rfl, 0, rfl⟩
                case round =>
                  obtain ⟨j, hj, rfl, q, rfl⟩ := hrel
                  have HMq : Hid (MatAt (w13.drewN q).heap (.slice (some ⟨bm, om, none⟩) (matOf n 1 (prodAt m (colM P))).length qm) (matOf n 1 (prodAt m (colM P)))) := HM
                  have HVq : Hid (RowAt (w13.drewN q).heap (.slice pv v.length qv) v) := HV
                  have HKq : Hid (Keeps w (w13.drewN q)) := HK
                  by_cases hjl : j < v.length
                  · have hjI : (j : Int) < (v.length : Int) := by omega
                    have hjn : j < n := by have := HVL.out; omega
                    have hj0 : (0 : Int) ≤ (j : Int) := by omega
                    have hjM : (j : Int) < ((matOf n 1 (prodAt m (colM P))).length : Int) := by rw [matOf_length]; omega
                    have i1 : (0 : Int) < ((1 : Nat) : Int) := by omega
                    obtain ⟨b2, o2, q2, r2, rs⟩ := row_cells HMq.out (matOf_rect n 1 _) (Nat.le_refl _) (i := j) (by rw [matOf_length]; exact hjn)
                    have cm := rs 0 (by omega)
                    rw [at_matOf _ hjn (by omega), S3.out j hjn] at cm
                    have cm : (w13.drewN q).cell? ⟨b2, o2, none⟩ = some (.int .u8 ((v.getD j 0).toNat : Int)) := cm
                    obtain ⟨b3, o3, q3, e3, cv⟩ := row_cell (j := j) HVq.out hjl
                    injection e3 with e4 e5 e6
                    subst e4 e6
                    generalize v.getD j 0 = y at *
                    have cm' : w13.cell? ⟨b2, o2, none⟩ = some (.int .u8 (y.toNat : Int)) := cm
                    have cv' : w13.cell? ⟨b3, o3 + j, none⟩ = some (.int .u8 (y.toNat : Int)) := cv
                    have r2' : w13.cell? ⟨bm, om + j, none⟩ = some (.slice (some ⟨b2, o2, none⟩) 1 q2) := r2
                    have cv : (w13.drewN q).cell? ⟨b3, o3 + j, none⟩ = some (.int .u8 (y.toNat : Int)) := cv
                    have hj12 : j ≤ 12 := by have := hn2.out; omega
                    have hy : ((y.toNat : Int) != (y.toNat : Int)) = false := by simp
                    clear rs hjn e5
                    go_wp2_with fail
                    go_quiet (fail)
                    go_wp2
                    exact ⟨⟨j + 1, by omega, by go_num, _, rfl⟩, by simp [intOf]; omega⟩
                  · obtain rfl : j = v.length := by omega
                    go_wp2
                    go_ret
                    exact ⟨rfl, HKq.out⟩
          · have hne : ((v.length : Int) != (m.length : Int)) = true := by rw [bne_iff_ne]; have := hla.out; omega
            clear hvl
            go_wp2
            go_ret
            exact ⟨rfl, HK.out⟩
        · have T1 := Lib.hid t1
          have T2 := Lib.hid t2
          have hdm : ((d : Int) == (m.length : Int)) = false := beq_eq_false_iff_ne.2 (by omega)
          clear t1 t2 hn hd
          go_wp2_with fail
          refine Calls.mono (gave (turn_any _ m _ HA.out) T1.out) ?_
          rintro e w3 ⟨vx, rfl, hm, hk⟩
          have HK : Hid (Keeps w w3) := HK.out.call hk (Nat.le_refl _)
          have HA := Lib.hid (HA.out.keeps hk)
          have HV := Lib.hid (HV.out.keeps hk)
          obtain ⟨px, qx, rfl⟩ := seq_shape (l := ([] : List (List UInt8))) hm.at_
          clear hk hm
          go_wp2_with fail
          refine Calls.mono (gaveI (rank_any _ m _ HA.out) T2.out) ?_
          rintro e w4 ⟨rfl, hk⟩
          have HK : Hid (Keeps w w4) := HK.out.call hk (Nat.le_refl _)
          have HA := Lib.hid (HA.out.keeps hk)
          have HV := Lib.hid (HV.out.keeps hk)
          clear hk
          go_wp2
          go_ret
          exact ⟨rfl, HK.out⟩
      · have T : Hid (turnM m = ([], 4)) := by show _ = _; unfold turnM; rw [ma, decide_eq_false sa]; rfl
        have n1 : ((m.length : Int) != (colsN m : Int)) = true := by rw [bne_iff_ne]; omega
        clear sa ma
        go_wp2_with fail
        refine Calls.mono (gave (turn_any _ m _ HA.out) T.out) ?_
        rintro e w3 ⟨vx, rfl, _, hk⟩
        have HK : Hid (Keeps w w3) := HK.out.call hk (Nat.le_refl _)
        have HA := Lib.hid (HA.out.keeps hk)
        clear hk
        go_wp2_with fail
        refine Calls.mono (refmay04_is _ m _ HA.out _ MA.out) ?_
        rintro e w4 ⟨rfl, hk⟩
        have HK : Hid (Keeps w w4) := HK.out.call hk (Nat.le_refl _)
        have HA := Lib.hid (HA.out.keeps hk)
        clear hk
        obtain ⟨p0, q0, c0⟩ := row0y HA.out A1.out
        change w4.cell? _ = some (.slice p0 (colsN m) q0) at c0
        go_wp2
        go_ret
        exact ⟨rfl, HK.out⟩
end Go.Proofs.Ytojdodbedemkoaa
