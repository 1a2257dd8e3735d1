/- The walk of the law MatrixApart. -/
import Derived.Test.YtojdodbedemkoaaWorks
import Derived.Test.YtojdodbedemkoaaMatLaw3
import Derived.Test.YtojdodbedemkoaaGive
namespace Go.Proofs.Ytojdodbedemkoaa
open Go.RowKit
theorem gmul_t (b : Nat) (x y s : UInt8) (w : World) (h : LA.mul x y = s) (ht : Tab w.heap b) : Calls Try.prog 35 #[.pointer (some ⟨b, 0, none⟩), .int .u8 (x.toNat : Int), .int .u8 (y.toNat : Int)] w fun e w' => e = .returned (.int .u8 (s.toNat : Int)) ∧ ∃ n, w' = w.drewN n := h ▸ gmul_tab b x y w ht
/-- A row of a matrix where the matrix lies, and two numbers of it. -/
theorem mat_two {w : World} {b off n q : Nat} {m : List (List UInt8)} (h : MatAt w.heap (.slice (some ⟨b, off, none⟩) n q) m) {i j l : Nat} (hi : i < m.length) (hj : j < (m.getD i []).length) (hl : l < (m.getD i []).length) :
    ∃ b' off' c', w.cell? ⟨b, off + i, none⟩ = some (.slice (some ⟨b', off', none⟩) (m.getD i []).length c') ∧ w.cell? ⟨b', off' + j, none⟩ = some (.int .u8 ((LA.at_ m i j).toNat : Int)) ∧ w.cell? ⟨b', off' + l, none⟩ = some (.int .u8 ((LA.at_ m i l).toNat : Int)) := by
  obtain ⟨b1, o1, c1, u, e, d1, r1⟩ := mat_row h hi
  injection e with e1 e2 e3
  simp only [Option.some.injEq, Addr.mk.injEq] at e1
  obtain ⟨rfl, rfl, _⟩ := e1
  obtain ⟨b2, o2, c2, e, d2⟩ := row_cell r1 hj
  obtain ⟨b3, o3, c3, e', d3⟩ := row_cell r1 hl
  rw [e] at e'
  injection e' with e4 e5 e6
  simp only [Option.some.injEq, Addr.mk.injEq] at e4
  obtain ⟨rfl, rfl, _⟩ := e4
  subst e
  exact ⟨b2, o2, c2, d1, d2, d3⟩
theorem mat_row' {w : World} {b off n q : Nat} {m : List (List UInt8)} (h : MatAt w.heap (.slice (some ⟨b, off, none⟩) n q) m) {i : Nat} (hi : i < m.length) :
    ∃ u, w.cell? ⟨b, off + i, none⟩ = some u ∧ RowAt w.heap u (m.getD i []) := by
  obtain ⟨b1, o1, c1, u, e, d1, r1⟩ := mat_row h hi
  injection e with e1 e2 e3
  simp only [Option.some.injEq, Addr.mk.injEq] at e1
  obtain ⟨rfl, rfl, _⟩ := e1
  exact ⟨u, d1, r1⟩
theorem byte_eq_no (x y : UInt8) (h : x ≠ y) : ((x.toNat : Int) == (y.toNat : Int)) = false := by
  refine beq_eq_false_iff_ne.2 fun e => h ?_
  exact UInt8.toNat_inj.1 (by omega)
theorem byte_zero_no (x : UInt8) (h : x ≠ 0) : ((x.toNat : Int) == 0) = false := by
  refine beq_eq_false_iff_ne.2 fun e => h ?_
  exact UInt8.toNat_inj.1 (by show x.toNat = 0; omega)

set_option maxRecDepth 100000 in
set_option maxHeartbeats 8000000 in
theorem apart_any (k0 n0 : Int) (w : World) (hk0 : -9223372036854775808 ≤ k0 ∧ k0 ≤ 9223372036854775807) (hn0 : -9223372036854775808 ≤ n0 ∧ n0 ≤ 9223372036854775807) :
    Calls Try.prog 5 #[.agg #[.int .i64 k0, .int .i64 n0]] w fun e w' => e = .returned (.bool true) ∧ Keeps w w' := by
  cases hc : codeB k0 n0 with
  | false =>
    have e : Hid (ofM k0 n0 = ([], 1)) := by show _ = _; unfold ofM; rw [hc]; rfl
    clear hc
    go_enter Try.func5, Try.ntmps5
    go_wp2_with fail
    refine Calls.mono (gave (matof_any _ _ _) e.out) ?_
    rintro e w1 ⟨v, rfl, hm, hk⟩
    have HK : Hid (Keeps w w1) := Keeps.trans (Keeps.al (keeps_refl w) _) hk
    clear hm hk
    go_wp2_with fail
    refine Calls.mono (works_any _) ?_
    rintro e w2 ⟨rfl, hk⟩
    have HK : Hid (Keeps w w2) := HK.out.call hk (Nat.le_refl _)
    clear hk
    go_wp2_with fail
    refine Calls.mono (works_any _) ?_
    rintro e w3 ⟨rfl, hk⟩
    have HK : Hid (Keeps w w3) := HK.out.call hk (Nat.le_refl _)
    clear hk
    go_wp2
    go_ret
    exact ⟨rfl, HK.out⟩
  | true =>
    obtain ⟨K, N, rfl, rfl, k1, k2, k3, hM⟩ := code_facts hc
    clear hc hk0 hn0
    have EM := Lib.hid hM
    clear hM
    have hlen : Hid ((matOf N K (codeAt K)).length = N) := matOf_length _ _ _
    have hrow : Hid (∀ i, i < N → ((matOf N K (codeAt K)).getD i []).length = K) := fun i hi => by rw [matOf_row _ hi]; simp
    have c0 : (w.alloc (.cells #[.int .i64 (K : Int), .int .i64 (N : Int)] 23)).cell? ⟨w.heap.size, 0, none⟩ = some (.int .i64 (K : Int)) := World.cell?_alloc_new _ _ _ _
    have c1 : (w.alloc (.cells #[.int .i64 (K : Int), .int .i64 (N : Int)] 23)).cell? ⟨w.heap.size, 1, none⟩ = some (.int .i64 (N : Int)) := World.cell?_alloc_new _ _ _ _
    have HC0 := Lib.hid c0
    have HC1 := Lib.hid c1
    clear c0 c1
    go_enter Try.func5, Try.ntmps5
    go_wp2_with fail
    refine Calls.mono (gave (matof_any _ _ _) EM.out) ?_
    rintro e w1 ⟨v, rfl, hm, hk⟩
    have HK : Hid (Keeps w w1) := Keeps.trans (Keeps.al (keeps_refl w) _) hk
    have HC0 := Lib.hid (keeps_cell hk HC0.out)
    have HC1 := Lib.hid (keeps_cell hk HC1.out)
    have HM := Lib.hid hm.at_
    clear hm hk
    obtain ⟨p, q, ev⟩ := seq_shape HM.out
    obtain ⟨b, o, ep⟩ := mat_addr (ev ▸ HM.out) (by rw [hlen.out]; omega)
    rw [hlen.out] at ev
    subst ev ep
    go_wp2_with fail
    refine Calls.mono (works_any _) ?_
    rintro e w2 ⟨rfl, hk⟩
    have HK : Hid (Keeps w w2) := HK.out.call hk (Nat.le_refl _)
    have HC0 := Lib.hid (keeps_cell hk HC0.out)
    have HC1 := Lib.hid (keeps_cell hk HC1.out)
    have HM := Lib.hid (MatAt.keeps HM.out hk)
    clear hk
    go_wp2_with fail
    refine Calls.mono (new_any _) ?_
    rintro e w3 ⟨rfl, hk, ht⟩
    generalize w2.heap.size = tb at *
    have HT := Lib.hid ht
    have HK : Hid (Keeps w w3) := HK.out.call hk (Nat.le_refl _)
    have HC0 := Lib.hid (keeps_cell hk HC0.out)
    have HC1 := Lib.hid (keeps_cell hk HC1.out)
    have HM := Lib.hid (MatAt.keeps HM.out hk)
    clear hk ht
    go_wp2_with fail
    go_loopw [6] (fun i wr => ∃ I : Nat, I ≤ N ∧ i = .int .i64 I ∧ Hid (Keeps w3 wr)) (fun i _ => N - (intOf i).toNat)
    case atStart => exact ⟨0, by omega, rfl, keeps_refl _⟩
    case round =>
      obtain ⟨I, hI, rfl, hkI⟩ := hrel
      have d0 := keeps_cell hkI.out HC0.out
      have d1 := keeps_cell hkI.out HC1.out
      by_cases hIN : I < N
      · obtain ⟨wi, rfl⟩ : ∃ x : World, x = wr := ⟨_, rfl⟩
        have e1 : decide ((I : Int) < (N : Int)) = true := decide_eq_true (by omega)
        have i1 : (I : Int) < (N : Int) := by omega
        have i0 : (0 : Int) ≤ (I : Int) := by omega
        have HD0 := Lib.hid d0
        have HD1 := Lib.hid d1
        go_wp2_with fail
        clear d0 d1 e1
        go_loopw [7] (fun j wr => ∃ J : Nat, J ≤ I ∧ j = .int .i64 J ∧ Hid (Keeps w3 wr)) (fun j _ => I - (intOf j).toNat)
        case atStart => exact ⟨0, by omega, rfl, hkI⟩
        case round =>
          obtain ⟨J, hJ, rfl, hkJ⟩ := hrel
          have d0 := keeps_cell hkJ.out HC0.out
          by_cases hJI : J < I
          · have j1 : (J : Int) < (N : Int) := by omega
            have j0 : (0 : Int) ≤ (J : Int) := by omega
            have j2 : (J : Int) < (I : Int) := by omega
            by_cases hK1 : 1 < K
            · have g1 : decide ((1 : Int) < (K : Int)) = true := decide_eq_true (by omega)
              have g2 : (1 : Int) < (K : Int) := by omega
              obtain ⟨u, d2, r2⟩ := mat_row' (HM.out.keeps hkJ.out) (i := I) (by rw [hlen.out]; exact hIN)
              obtain ⟨u', d3, r3⟩ := mat_row' (HM.out.keeps hkJ.out) (i := J) (by rw [hlen.out]; omega)
              have cv1 := fun n => conv8 r2 n
              have cv2 := fun n => conv8 r3 n
              have hne : ((strB ((matOf N K (codeAt K)).getD I [])).toList == (strB ((matOf N K (codeAt K)).getD J [])).toList) = false := by
                rw [strB_eq]; exact decide_eq_false (apart_rows k3 (by omega) k2 hIN hJI)
              clear r2 r3
              generalize (matOf N K (codeAt K)).getD I [] = ri at *
              generalize (matOf N K (codeAt K)).getD J [] = rj at *
              go_wp2_with fail
              go_quiet (fail)
              go_wp2
              exact ⟨⟨J + 1, by omega, rfl, hkJ⟩, by simp [intOf]; omega⟩
            · have g1 : decide ((1 : Int) < (K : Int)) = false := decide_eq_false (by omega)
              have g2 : ¬ (1 : Int) < (K : Int) := by omega
              go_wp2_with fail
              go_quiet (fail)
              go_wp2
              exact ⟨⟨J + 1, by omega, rfl, hkJ⟩, by simp [intOf]; omega⟩
          · obtain rfl : J = I := by omega
            have d1 := keeps_cell hkJ.out HC1.out
            go_wp2_with fail
            clear d0 d1
            go_loopw [8] (fun j wr => ∃ J' : Nat, J' ≤ K ∧ j = .int .i64 J' ∧ Hid (Keeps w3 wr)) (fun j _ => K - (intOf j).toNat)
            case atStart => exact ⟨0, by omega, rfl, hkJ⟩
            case round =>
              obtain ⟨L, hL, rfl, hkL⟩ := hrel
              have d0 := keeps_cell hkL.out HC0.out
              by_cases hgo : L < K ∧ K ≤ J
              · obtain ⟨hLK, hKJ⟩ := hgo
                have l1 : (L : Int) < (K : Int) := by omega
                have l2 : (K : Int) ≤ (J : Int) := by omega
                have l0 : (0 : Int) ≤ (L : Int) := by omega
                obtain ⟨b1, o1, q1, d2, d3, d3x⟩ := mat_two (HM.out.keeps hkL.out) (i := J) (j := L) (l := L) (by rw [hlen.out]; exact hIN) (by rw [hrow.out _ hIN]; exact hLK) (by rw [hrow.out _ hIN]; exact hLK)
                clear d3x
                rw [hrow.out _ hIN] at d2
                rw [code_at hIN hLK, code_low hKJ] at d3
                have z := byte_zero_no _ (apart_ne0 J (by omega) L (by omega))
                have HZ0 : Hid (∀ l, l < L → LA.at_ (matOf N K (codeAt K)) J l = LA.inv (UInt8.ofNat (J ^^^ l))) := fun l hl => by rw [code_at hIN (by omega), code_low hKJ]
                have HZL : Hid (LA.at_ (matOf N K (codeAt K)) J L = LA.inv (UInt8.ofNat (J ^^^ L))) := by show _ = _; rw [code_at hIN hLK, code_low hKJ]
                generalize hv : LA.inv (UInt8.ofNat (J ^^^ L)) = y at *
                have HV := Lib.hid hv
                clear hv
                go_wp2_with fail
                clear d0 d2 d3 z
                go_loopw [9] (fun t wr => ∃ T : Nat, K ≤ T ∧ T ≤ J ∧ t = .int .i64 T ∧ Hid (Keeps w3 wr)) (fun t _ => J - (intOf t).toNat)
                case atStart => exact ⟨K, by omega, hKJ, rfl, hkL⟩
                case round =>
                  obtain ⟨T, hT1, hT2, rfl, hkT⟩ := hrel
                  have d0 := keeps_cell hkT.out HC0.out
                  by_cases hTJ : T < J
                  · have t1 : (T : Int) < (J : Int) := by omega
                    have t2 : (T : Int) < (N : Int) := by omega
                    have t0 : (0 : Int) ≤ (T : Int) := by omega
                    go_wp2_with fail
                    clear d0
                    go_loopw [10] (fun s wr => ∃ S : Nat, S ≤ L ∧ s = .int .i64 S ∧ Hid (Keeps w3 wr)) (fun s _ => L - (intOf s).toNat)
                    case atStart => exact ⟨0, by omega, rfl, hkT⟩
                    case round =>
                      obtain ⟨S, hS, rfl, hkS⟩ := hrel
                      by_cases hSL : S < L
                      · have s1 : (S : Int) < (K : Int) := by omega
                        have s0 : (0 : Int) ≤ (S : Int) := by omega
                        have s2 : (S : Int) < (L : Int) := by omega
                        have hTN : T < N := by omega
                        obtain ⟨b1, o1, q1, d2, d3, d4⟩ := mat_two (HM.out.keeps hkS.out) (i := J) (j := L) (l := S) (by rw [hlen.out]; exact hIN) (by rw [hrow.out _ hIN]; exact hLK) (by rw [hrow.out _ hIN]; omega)
                        obtain ⟨b2, o2, q2, d5, d6, d7⟩ := mat_two (HM.out.keeps hkS.out) (i := T) (j := S) (l := L) (by rw [hlen.out]; exact hTN) (by rw [hrow.out _ hTN]; omega) (by rw [hrow.out _ hTN]; exact hLK)
                        rw [hrow.out _ hIN] at d2
                        rw [hrow.out _ hTN] at d5
                        have hne : LA.mul (LA.at_ (matOf N K (codeAt K)) J L) (LA.at_ (matOf N K (codeAt K)) T S) ≠ LA.mul (LA.at_ (matOf N K (codeAt K)) J S) (LA.at_ (matOf N K (codeAt K)) T L) := by
                          rw [code_at hIN hLK, code_at hTN (by omega), code_at hIN (by omega), code_at hTN hLK, code_low hKJ, code_low hT1, code_low hKJ, code_low hT1]
                          exact apart_cross J (by omega) T hTJ L (by omega) S hSL
                        have hT3 : Hid (Tab wr.heap tb) := Tab.keeps HT.out hkS.out
                        clear HZ0 HZL
                        generalize LA.at_ (matOf N K (codeAt K)) J L = x1 at *
                        generalize LA.at_ (matOf N K (codeAt K)) T S = x2 at *
                        generalize LA.at_ (matOf N K (codeAt K)) J S = x3 at *
                        generalize LA.at_ (matOf N K (codeAt K)) T L = x4 at *
                        generalize hp1 : LA.mul x1 x2 = p1 at *
                        generalize hp2 : LA.mul x3 x4 = p2 at *
                        have HP1 := Lib.hid hp1
                        have HP2 := Lib.hid hp2
                        have hq := byte_eq_no p1 p2 hne
                        clear hp1 hp2 hne
                        clear HC0 HC1 EM hlen hrow HV HK HM HT hkI hkJ hkL hkT
                        go_wp2_with fail
                        go_quiet (first | (go_at_call_of 35 ((x2.toNat : Int)); refine Calls.mono (gmul_t _ x1 x2 p1 _ HP1.out ?_) ?_; exact hT3.out; rintro e w' ⟨rfl, n9, rfl⟩; first | exact ⟨rfl, _, rfl⟩ | exact ⟨rfl, _, World.drewN_drewN _ _ _⟩) | (go_at_call_of 35 ((x3.toNat : Int)); refine Calls.mono (gmul_t _ x3 x4 p2 _ HP2.out ?_) ?_; exact hT3.out; rintro e w' ⟨rfl, n9, rfl⟩; first | exact ⟨rfl, _, rfl⟩ | exact ⟨rfl, _, World.drewN_drewN _ _ _⟩))
                        go_wp2
                        exact ⟨⟨S + 1, by omega, rfl, hkS⟩, by simp [intOf]; omega⟩
                      · obtain rfl : S = L := by omega
                        go_wp2
                        exact ⟨⟨T + 1, by omega, by omega, rfl, hkS⟩, by simp [intOf]; omega⟩
                  · obtain rfl : T = J := by omega
                    go_wp2
                    exact ⟨⟨L + 1, by omega, rfl, hkT⟩, by simp [intOf]; omega⟩
              · by_cases hLK : L < K
                · have l1 : (L : Int) < (K : Int) := by omega
                  have l2 : ¬ (K : Int) ≤ (J : Int) := by omega
                  have l3 : decide ((K : Int) ≤ (J : Int)) = false := decide_eq_false l2
                  go_wp2
                  exact ⟨⟨J + 1, by omega, rfl, hkL⟩, by simp [intOf]; omega⟩
                · have l1 : ¬ (L : Int) < (K : Int) := by omega
                  have l3 : decide ((L : Int) < (K : Int)) = false := decide_eq_false l1
                  go_wp2
                  exact ⟨⟨J + 1, by omega, rfl, hkL⟩, by simp [intOf]; omega⟩
      · obtain rfl : I = N := by omega
        have HK : Hid (Keeps w wr) := HK.out.call hkI.out (Nat.le_refl _)
        go_wp2
        go_ret
        exact ⟨rfl, HK.out⟩
end Go.Proofs.Ytojdodbedemkoaa
