/- The walk of the law on solve.Down. -/
import Derived.Test.YtojdodbedemkoaaAwake
namespace Go.Proofs.Ytojdodbedemkoaa
open Go.RowKit
theorem gaveI {f : FuncId} {xs : Array Value} {w : World} {r r' : Int × Int} (h : Calls Try.prog f xs w (GiveInt w r)) (e : r = r') : Calls Try.prog f xs w (GiveInt w r') := e ▸ h
theorem long_is (v : Value) (m : List (List UInt8)) (w : World) (hm : MatAt w.heap v m) (x : Bool) (hx : longB m = x) : Calls Try.prog 37 #[v] w fun e w' => e = .returned (.bool x) ∧ Keeps w w' :=
  hx ▸ kept (long_any v m w hm)
theorem refmay04_is (v : Value) (m : List (List UInt8)) (w : World) (hm : MatAt w.heap v m) (x : Bool) (hx : mayB 255 m = x) : Calls Try.prog 40 #[v] w fun e w' => e = .returned (.bool x) ∧ Keeps w w' :=
  hx ▸ kept (refmay04_any v m w hm)
theorem cols_rect {D : List (List UInt8)} {N : Nat} (h : LA.Rect D N) (h1 : 1 ≤ D.length) : colsN D = N := by
  unfold colsN
  cases D with
  | nil => simp at h1
  | cons r D => exact h r (List.mem_cons_self ..)
theorem may_of {D : List (List UInt8)} {N : Nat} (h : LA.Rect D N) (h1 : 1 ≤ D.length) (h2 : D.length ≤ 255) (h3 : 1 ≤ N) (h4 : N ≤ 255) : mayB 255 D = true := by
  have e := cols_rect h h1
  unfold colsN at e
  exact mayB_iff.2 ⟨h1, h2, by omega, by omega, fun r hr => by rw [e]; exact h r hr⟩
theorem dn_may {m : List (List UInt8)} (h : mayB 255 m = true) : mayB 255 (LA.dn m (colsN m)).1 = true ∧ colsN (LA.dn m (colsN m)).1 = colsN m := by
  obtain ⟨a1, a2, a3, a4, hR⟩ := may_cols h
  have hl := dn_len m (colsN m)
  have hr := dn_rect hR (colsN m)
  exact ⟨may_of hr (by omega) (by omega) a3 a4, cols_rect hr (by omega)⟩
theorem down_twice {m : List (List UInt8)} (h : mayB 255 m = true) : downM m = ((LA.dn m (colsN m)).1, 0) ∧ rankM m = (((LA.dn m (colsN m)).2 : Int), 0) ∧
    downM (LA.dn m (colsN m)).1 = ((LA.dn m (colsN m)).1, 0) ∧ rankM (LA.dn m (colsN m)).1 = (((LA.dn m (colsN m)).2 : Int), 0) := by
  obtain ⟨h1, h2⟩ := dn_may h
  have hR := (may_cols h).2.2.2.2
  have e := LA.dn_dn hR
  refine ⟨by unfold downM; rw [h]; rfl, by unfold rankM; rw [h]; rfl, ?_, ?_⟩
  · unfold downM; rw [h1, h2, e]; rfl
  · unfold rankM; rw [h1, h2, e]; rfl
theorem row_cells {w : World} {b off n q c : Nat} {m : List (List UInt8)} (s : MatAt w.heap (.slice (some ⟨b, off, none⟩) n q) m) (hr : LA.Rect m c) (hc : 1 ≤ c) {i : Nat} (hi : i < m.length) :
    ∃ b1 o1 q1, w.cell? ⟨b, off + i, none⟩ = some (.slice (some ⟨b1, o1, none⟩) c q1) ∧ ∀ j, j < c → w.cell? ⟨b1, o1 + j, none⟩ = some (.int .u8 ((LA.at_ m i j).toNat : Int)) := by
  have hl := LA.rect_row hr hi
  obtain ⟨b', off', c', b1, o1, q1, e, c1, c2⟩ := mat_cell (j := 0) s hi (by omega)
  injection e with e1 e2 e3
  simp only [Option.some.injEq, Addr.mk.injEq] at e1
  obtain ⟨rfl, rfl, _⟩ := e1
  rw [hl] at c1
  refine ⟨b1, o1, q1, c1, fun j hj => ?_⟩
  obtain ⟨b2, off2, c3, b3, o3, q3, e, c4, c5⟩ := mat_cell (j := j) s hi (by omega)
  injection e with e1 e2 e3
  simp only [Option.some.injEq, Addr.mk.injEq] at e1
  obtain ⟨rfl, rfl, _⟩ := e1
  rw [c1] at c4
  injection c4 with c4
  injection c4 with c4 c6 c7
  simp only [Option.some.injEq, Addr.mk.injEq] at c4
  obtain ⟨rfl, rfl, _⟩ := c4
  exact c5

set_option maxRecDepth 100000 in
set_option maxHeartbeats 4000000 in
theorem sdownlaw_any (va : Value) (m : List (List UInt8)) (w : World) (ha : MatAt w.heap va m) : Calls Try.prog 11 #[va] w fun e w' => e = .returned (.bool true) ∧ Keeps w w' := by
  obtain ⟨pa, qa, rfl⟩ := seq_shape ha
  have HA := Lib.hid ha
  clear ha
  cases hl : longB m with
  | true =>
    go_enter Try.func11, Try.ntmps11
    go_wp2_with fail
    refine Calls.mono (long_is _ m _ HA.out _ hl) ?_
    rintro e w1 ⟨rfl, hk⟩
    have HK := Lib.hid hk
    clear hk
    go_wp2_with fail
    refine Calls.mono (awake_any _) ?_
    rintro e w2 ⟨rfl, hk⟩
    have HK : Hid (Keeps w w2) := HK.out.call hk (Nat.le_refl _)
    clear hk
    go_wp2
    go_ret
    exact ⟨rfl, HK.out⟩
  | false =>
    cases hm : mayB 255 m with
    | false =>
      have MA := Lib.hid hm
      have e1 : Hid (downM m = ([], 4)) := by show _ = _; unfold downM; rw [hm]; rfl
      have e2 : Hid (rankM m = (0, 4)) := by show _ = _; unfold rankM; rw [hm]; rfl
      clear hm
      go_enter Try.func11, Try.ntmps11
      go_wp2_with fail
      refine Calls.mono (long_is _ m _ HA.out _ hl) ?_
      rintro e w1 ⟨rfl, hk⟩
      have HK := Lib.hid hk
      have HA := Lib.hid (HA.out.keeps hk)
      clear hk
      go_wp2_with fail
      refine Calls.mono (awake_any _) ?_
      rintro e w2 ⟨rfl, hk⟩
      have HK : Hid (Keeps w w2) := HK.out.call hk (Nat.le_refl _)
      have HA := Lib.hid (HA.out.keeps hk)
      clear hk
      go_wp2_with fail
      refine Calls.mono (gave (sdown_any _ m _ HA.out) e1.out) ?_
      rintro e w3 ⟨v, rfl, hv, hk⟩
      have HK : Hid (Keeps w w3) := HK.out.call hk (Nat.le_refl _)
      have HA := Lib.hid (HA.out.keeps hk)
      obtain ⟨p0, q0, rfl⟩ := seq_shape (l := ([] : List (List UInt8))) hv.at_
      clear hk hv
      go_wp2_with fail
      refine Calls.mono (gaveI (rank_any _ m _ HA.out) e2.out) ?_
      rintro e w4 ⟨rfl, hk⟩
      have HK : Hid (Keeps w w4) := HK.out.call hk (Nat.le_refl _)
      have HA := Lib.hid (HA.out.keeps hk)
      clear hk
      go_wp2_with fail
      refine Calls.mono (refmay04_is _ m _ HA.out _ MA.out) ?_
      rintro e w5 ⟨rfl, hk⟩
      have HK : Hid (Keeps w w5) := HK.out.call hk (Nat.le_refl _)
      clear hk
      go_wp2
      go_ret
      exact ⟨rfl, HK.out⟩
    | true =>
      obtain ⟨a1, a2, a3, a4, hR⟩ := may_cols hm
      obtain ⟨d1, d2, d3, d4⟩ := down_twice hm
      obtain ⟨piv, hE⟩ := LA.dn_ech hR (colsN m)
      have hDl := dn_len m (colsN m)
      generalize (LA.dn m (colsN m)).1 = D at *
      generalize (LA.dn m (colsN m)).2 = d at *
      have E1 := Lib.hid d1
      have E2 := Lib.hid d2
      have E3 := Lib.hid d3
      have E4 := Lib.hid d4
      have HE := Lib.hid hE
      have HDL := Lib.hid hDl
      have hdl := hE.dle
      have hdn := hE.dn_le
      have H1 := Lib.hid a1
      have H3 := Lib.hid a3
      have f1 : decide ((m.length : Int) < (d : Int)) = false := decide_eq_false (by omega)
      have f1' : decide (m.length < d) = false := decide_eq_false (by omega)
      have f2 : decide ((colsN m : Int) < (d : Int)) = false := decide_eq_false (by omega)
      have f2' : decide (colsN m < d) = false := decide_eq_false (by omega)
      have i0 : (0 : Int) < (m.length : Int) := by omega
      have H255 : Hid (D.length ≤ 255 ∧ colsN m ≤ 255) := ⟨by omega, a4⟩
      have HLe : Hid (d ≤ D.length ∧ d ≤ colsN m) := ⟨hdl, hdn⟩
      clear hm d1 d2 d3 d4 hE hR hDl a1 a2 a3 a4 hdl hdn
      go_enter Try.func11, Try.ntmps11
      go_wp2_with fail
      refine Calls.mono (long_is _ m _ HA.out _ hl) ?_
      rintro e w1 ⟨rfl, hk⟩
      have HK := Lib.hid hk
      have HA := Lib.hid (HA.out.keeps hk)
      clear hk
      go_wp2_with fail
      refine Calls.mono (awake_any _) ?_
      rintro e w2 ⟨rfl, hk⟩
      have HK : Hid (Keeps w w2) := HK.out.call hk (Nat.le_refl _)
      have HA := Lib.hid (HA.out.keeps hk)
      clear hk
      go_wp2_with fail
      refine Calls.mono (gave (sdown_any _ m _ HA.out) E1.out) ?_
      rintro e w3 ⟨v, rfl, hv, hk⟩
      have HK : Hid (Keeps w w3) := HK.out.call hk (Nat.le_refl _)
      have HA := Lib.hid (HA.out.keeps hk)
      have hv : MatAt w3.heap v D := hv.at_
      obtain ⟨pd, qd, rfl⟩ := seq_shape hv
      obtain ⟨bd, od, rfl⟩ := mat_addr hv (by have := H1.out; have := HDL.out; omega)
      have HD : Hid (MatAt w3.heap (.slice (some ⟨bd, od, none⟩) D.length qd) D) := hv
      clear hk hv
      go_wp2_with fail
      refine Calls.mono (gaveI (rank_any _ m _ HA.out) E2.out) ?_
      rintro e w4 ⟨rfl, hk⟩
      have HK : Hid (Keeps w w4) := HK.out.call hk (Nat.le_refl _)
      have HA := Lib.hid (HA.out.keeps hk)
      have HD := Lib.hid (HD.out.keeps hk)
      clear hk
      go_wp2_with fail
      refine Calls.mono (gave (sdown_any _ D _ HD.out) E3.out) ?_
      rintro e w5 ⟨v2, rfl, hv, hk⟩
      have HK : Hid (Keeps w w5) := HK.out.call hk (Nat.le_refl _)
      have HA := Lib.hid (HA.out.keeps hk)
      have HD := Lib.hid (HD.out.keeps hk)
      have HV : Hid (MatAt w5.heap v2 D) := hv.at_
      clear hk hv
      go_wp2_with fail
      refine Calls.mono (gaveI (rank_any _ D _ HD.out) E4.out) ?_
      rintro e w6 ⟨rfl, hk⟩
      have HK : Hid (Keeps w w6) := HK.out.call hk (Nat.le_refl _)
      have HA := Lib.hid (HA.out.keeps hk)
      have HD := Lib.hid (HD.out.keeps hk)
      have HV := Lib.hid (HV.out.keeps hk)
      clear hk
      go_wp2_with fail
      refine Calls.mono (same04_yes _ _ D _ HD.out HV.out) ?_
      rintro e w7 ⟨rfl, hk⟩
      have HK : Hid (Keeps w w7) := HK.out.call hk (Nat.le_refl _)
      have HA := Lib.hid (HA.out.keeps hk)
      have HD := Lib.hid (HD.out.keeps hk)
      clear hk HV
      obtain ⟨ba, oa, rfl⟩ := mat_addr HA.out H1.out
      obtain ⟨p0, q0, c0⟩ := row0y HA.out H1.out
      change w7.cell? _ = some (.slice p0 (colsN m) q0) at c0
      go_wp2_with fail
      generalize colsN m = N at *
      go_loopw [11, 12] (fun la i wr => ∃ (k : Nat) (l : Int), k ≤ D.length ∧ i = .int .i64 k ∧ la = .int .i64 l ∧ Hid (∀ j, k ≤ j → j < d → l < (piv j : Int)) ∧ ∃ q, wr = w7.drewN q) (fun _ i _ => D.length - (intOf i).toNat)
      case atStart => exact ⟨0, -1, by omega, rfl, rfl, fun j _ _ => by omega, 0, rfl⟩
      case round =>
        obtain ⟨k, l, hk, rfl, rfl, hla, q, rfl⟩ := hrel
        have HD : Hid (MatAt (w7.drewN q).heap (.slice (some ⟨bd, od, none⟩) D.length qd) D) := HD
        have HK : Hid (Keeps w (w7.drewN q)) := HK
        obtain ⟨hb1, hb2⟩ := H255.out
        by_cases hkl : k < D.length
        · obtain ⟨b1, o1, q1, r1, rs⟩ := row_cells HD.out HE.out.rect H3.out hkl
          have hkI : (k : Int) < (D.length : Int) := by omega
          have HRS := Lib.hid rs
          clear rs
          go_wp2
          go_loopw [13] (fun c wr => ∃ j : Nat, j ≤ N ∧ c = .int .i64 j ∧ Hid (∀ j', j' < j → LA.at_ D k j' = 0) ∧ ∃ q, wr = w7.drewN q) (fun c _ => N - (intOf c).toNat)
          case atStart => exact ⟨0, by omega, rfl, fun j h => by omega, q, rfl⟩
          case round =>
            obtain ⟨j, hj, rfl, hz, q', rfl⟩ := hrel
            have HD : Hid (MatAt (w7.drewN q').heap (.slice (some ⟨bd, od, none⟩) D.length qd) D) := HD
            have HK : Hid (Keeps w (w7.drewN q')) := HK
            have HRS : Hid (∀ j, j < N → (w7.drewN q').cell? ⟨b1, o1 + j, none⟩ = some (.int .u8 ((LA.at_ D k j).toNat : Int))) := HRS
            have r1 : (w7.drewN q').cell? ⟨bd, od + k, none⟩ = some (.slice (some ⟨b1, o1, none⟩) N q1) := r1
            by_cases hA : j < N ∧ LA.at_ D k j = 0
            · have hjN : (j : Int) < (N : Int) := by omega
              have cj := HRS.out j hA.1
              rw [hA.2] at cj
              change World.cell? _ _ = some (.int .u8 0) at cj
              have HZ : Hid (∀ j', j' < j + 1 → LA.at_ D k j' = 0) := fun j' h => by
                by_cases e : j' = j
                · subst e; exact hA.2
                · exact hz.out j' (by omega)
              have hj1 : j + 1 ≤ N := hA.1
              clear hA
              go_wp2
              exact ⟨⟨j + 1, hj1, rfl, HZ, q', rfl⟩, by simp [intOf]; omega⟩
            · by_cases hkd : k < d
              · have hjp : j = piv k := by
                  have p1 := HE.out.lt k hkd
                  have p2 := HE.out.one k hkd
                  rcases Nat.lt_trichotomy j (piv k) with h | h | h
                  · exact absurd ⟨by omega, HE.out.left k hkd j h⟩ hA
                  · exact h
                  · have := hz.out _ h
                    rw [this] at p2; cases p2
                have hjN' : j < N := by have := HE.out.lt k hkd; omega
                have hjN : (j : Int) < (N : Int) := by omega
                have cj := HRS.out j hjN'
                rw [hjp, HE.out.one k hkd, ← hjp] at cj
                change World.cell? _ _ = some (.int .u8 1) at cj
                have hlj : l < (j : Int) := by rw [hjp]; exact hla.out k (Nat.le_refl _) hkd
                have g1 : decide ((j : Int) < (N : Int)) = true := decide_eq_true hjN
                have g2 : decide ((k : Int) < (d : Int)) = true := decide_eq_true (by omega)
                have g2' : decide (k < d) = true := decide_eq_true hkd
                have g3 : decide ((d : Int) ≤ (k : Int)) = false := decide_eq_false (by omega)
                have g3' : decide (d ≤ k) = false := decide_eq_false (by omega)
                have g4 : decide ((j : Int) ≤ l) = false := decide_eq_false (by omega)
                have HCL : Hid (∀ t, t ≠ k → LA.at_ D t j = 0) := fun t ht => by rw [hjp]; exact HE.out.clear k hkd t ht
                have HLN : Hid (∀ t, k + 1 ≤ t → t < d → (j : Int) < (piv t : Int)) := fun t h1 h2 => by
                  have := HE.out.mono k t (by omega) h2
                  omega
                have HJ := Lib.hid hjN'
                clear hA hjp hjN' hkd
                go_wp2
                go_loopw [14] (fun i wr => ∃ t : Nat, t ≤ D.length ∧ i = .int .i64 t ∧ ∃ q, wr = w7.drewN q) (fun i _ => D.length - (intOf i).toNat)
                case atStart => exact ⟨0, by omega, rfl, q', rfl⟩
                case round =>
                  obtain ⟨t, ht, rfl, q2, rfl⟩ := hrel
                  have HD : Hid (MatAt (w7.drewN q2).heap (.slice (some ⟨bd, od, none⟩) D.length qd) D) := HD
                  have HK : Hid (Keeps w (w7.drewN q2)) := HK
                  by_cases htl : t < D.length
                  · have htI : (t : Int) < (D.length : Int) := by omega
                    by_cases htk : t = k
                    · have n1 : ((t : Int) != (k : Int)) = false := by rw [bne_eq_false_iff_eq, htk]
                      clear htk
                      go_wp2
                      exact ⟨⟨t + 1, by omega, rfl, q2, rfl⟩, by simp [intOf]; omega⟩
                    · have n1 : ((t : Int) != (k : Int)) = true := by rw [bne_iff_ne]; omega
                      obtain ⟨b2, o2, z2, r2, rs⟩ := row_cells HD.out HE.out.rect H3.out htl
                      have ct := rs j HJ.out
                      rw [HCL.out t htk] at ct
                      change World.cell? _ _ = some (.int .u8 0) at ct
                      clear rs htk
                      go_wp2
                      exact ⟨⟨t + 1, by omega, rfl, q2, rfl⟩, by simp [intOf]; omega⟩
                  · obtain rfl : t = D.length := by omega
                    go_wp2
                    exact ⟨⟨k + 1, j, by omega, rfl, rfl, HLN, q2, rfl⟩, by simp [intOf]; omega⟩
              · have hjN : j = N := by
                  have := HE.out.low k (by omega)
                  by_cases h : j < N
                  · exact absurd ⟨h, this j h⟩ hA
                  · omega
                have g2 : decide ((k : Int) < (d : Int)) = false := decide_eq_false (by omega)
                have g2' : decide (k < d) = false := decide_eq_false hkd
                have g3 : decide ((d : Int) ≤ (k : Int)) = true := decide_eq_true (by omega)
                have g3' : decide (d ≤ k) = true := decide_eq_true (by omega)
                have HLN : Hid (∀ t, k + 1 ≤ t → t < d → l < (piv t : Int)) := fun t h1 h2 => hla.out t (by omega) h2
                have g5 : decide ((j : Int) < (N : Int)) = false := decide_eq_false (by omega)
                have g5' : decide (j < N) = false := decide_eq_false (by omega)
                clear hA hjN
                go_wp2
                exact ⟨⟨k + 1, l, by omega, rfl, rfl, HLN, q', rfl⟩, by simp [intOf]; omega⟩
        · obtain rfl : k = D.length := by omega
          go_wp2
          go_ret
          exact ⟨rfl, HK.out⟩
end Go.Proofs.Ytojdodbedemkoaa
