/- The walk of the law on solve.Down. -/
import Derived.Test.YtojdodbedemkoaaAwake
namespace Go.Proofs.Ytojdodbedemkoaa
open Go.RowKit
theorem gaveI {f : FuncId} {xs : Array Value} {w : World} {r r' : Int × Int} (h : Calls Try.prog f xs w (GiveInt w r)) (e : r = r') : Calls Try.prog f xs w (GiveInt w r') := e ▸ h
theorem long_is (v : Value) (m : List (List UInt8)) (w : World) (hm : MatAt w.heap v m) (x : Bool) (hx : longB m = x) : Calls Try.prog 37 #[v] w fun e w' => e = .returned (.bool x) ∧ Keeps w w' :=
  hx ▸ kept (long_any v m w hm)
theorem refmay04_is (v : Value) (m : List (List UInt8)) (w : World) (hm : MatAt w.heap v m) (x : Bool) (hx : mayB 255 m = x) : Calls Try.prog 40 #[v] w fun e w' => e = .returned (.bool x) ∧ Keeps w w' :=
  hx ▸ kept (refmay04_any v m w hm)
theorem cols_rect {D : List (List UInt8)} {N : Nat} (h : LA.Rect D N) (h1 : 1 ≤ D.length) : colsN D = N := by
  unfold colsN
  cases D with
  | nil => simp at h1
  | cons r D => exact h r (List.mem_cons_self ..)
theorem may_of {D : List (List UInt8)} {N : Nat} (h : LA.Rect D N) (h1 : 1 ≤ D.length) (h2 : D.length ≤ 255) (h3 : 1 ≤ N) (h4 : N ≤ 255) : mayB 255 D = true := by
  have e := cols_rect h h1
  unfold colsN at e
  exact mayB_iff.2 ⟨h1, h2, by omega, by omega, fun r hr => by rw [e]; exact h r hr⟩
theorem dn_may {m : List (List UInt8)} (h : mayB 255 m = true) : mayB 255 (LA.dn m (colsN m)).1 = true ∧ colsN (LA.dn m (colsN m)).1 = colsN m := by
  obtain ⟨a1, a2, a3, a4, hR⟩ := may_cols h
  have hl := dn_len m (colsN m)
  have hr := dn_rect hR (colsN m)
  exact ⟨may_of hr (by omega) (by omega) a3 a4, cols_rect hr (by omega)⟩
theorem down_twice {m : List (List UInt8)} (h : mayB 255 m = true) : downM m = ((LA.dn m (colsN m)).1, 0) ∧ rankM m = (((LA.dn m (colsN m)).2 : Int), 0) ∧
    downM (LA.dn m (colsN m)).1 = ((LA.dn m (colsN m)).1, 0) ∧ rankM (LA.dn m (colsN m)).1 = (((LA.dn m (colsN m)).2 : Int), 0) := by
  obtain ⟨h1, h2⟩ := dn_may h
  have hR := (may_cols h).2.2.2.2
  have e := LA.dn_dn hR
  refine ⟨by unfold downM; rw [h]; rfl, by unfold rankM; rw [h]; rfl, ?_, ?_⟩
  · unfold downM; rw [h1, h2, e]; rfl
  · unfold rankM; rw [h1, h2, e]; rfl
theorem row_cells {w : World} {b off n q c : Nat} {m : List (List UInt8)} (s : MatAt w.heap (.slice (some ⟨b, off, none⟩) n q) m) (hr : LA.Rect m c) (hc : 1 ≤ c) {i : Nat} (hi : i < m.length) :
    ∃ b1 o1 q1, w.cell? ⟨b, off + i, none⟩ = some (.slice (some ⟨b1, o1, none⟩) c q1) ∧ ∀ j, j < c → w.cell? ⟨b1, o1 + j, none⟩ = some (.int .u8 ((LA.at_ m i j).toNat : Int)) := by
  have hl := LA.rect_row hr hi
  obtain ⟨b', off', c', b1, o1, q1, e, c1, c2⟩ := mat_cell (j := 0) s hi (by omega)
  injection e with e1 e2 e3
  simp only [Option.some.injEq, Addr.mk.injEq] at e1
  obtain ⟨rfl, rfl, _⟩ := e1
  rw [hl] at c1
  refine ⟨b1, o1, q1, c1, fun j hj => ?_⟩
  obtain ⟨b2, off2, c3, b3, o3, q3, e, c4, c5⟩ := mat_cell (j := j) s hi (by omega)
  injection e with e1 e2 e3
  simp only [Option.some.injEq, Addr.mk.injEq] at e1
  obtain ⟨rfl, rfl, _⟩ := e1
  rw [c1] at c4
  injection c4 with c4
  injection c4 with c4 c6 c7
  simp only [Option.some.injEq, Addr.mk.injEq] at c4
  obtain ⟨rfl, rfl, _⟩ := c4
  exact c5

set_option maxRecDepth 100000 in
set_option maxHeartbeats 4000000 in
theorem sdownlaw_any (va : Value) (m : List (List UInt8)) (w : World) (ha : MatAt w.heap va m) : Calls Try.prog 11 #[va] w fun e w' => e = .returned (.bool true) ∧ Keeps w w' := by
  obtain ⟨pa, qa, rfl⟩ := seq_shape ha
  have HA := Lib.hid ha
  clear ha
  cases hl : longB m with
  | true =>
    go_enter Try.func11, Try.ntmps11
    go_wp2_with fail
    refine Calls.mono (long_is _ m _ HA.out _ hl) ?_
    rintro e w1 ⟨rfl, hk⟩
    have HK := Lib.hid hk
    clear hk
    go_wp2_with fail
    refine Calls.mono (awake_any _) ?_
    rintro e w2 ⟨rfl, hk⟩
    have HK : Hid (Keeps w w2) := HK.out.call hk (Nat.le_refl _)
    clear hk
    go_wp2
    go_ret
    exact ⟨rfl, HK.out⟩
  | false =>
    cases hm : mayB 255 m with
    | false =>
      have MA := Lib.hid hm
      have e1 : Hid (downM m = ([], 4)) := by show _ = _; unfold downM; rw [hm]; rfl
      have e2 : Hid (rankM m = (0, 4)) := by show _ = _; unfold rankM; rw [hm]; rfl
      clear hm
      go_enter Try.func11, Try.ntmps11
      go_wp2_with fail
      refine Calls.mono (long_is _ m _ HA.out _ hl) ?_
      rintro e w1 ⟨rfl, hk⟩
      have HK := Lib.hid hk
      have HA := Lib.hid (HA.out.keeps hk)
      clear hk
      go_wp2_with fail
      refine Calls.mono (awake_any _) ?_
      rintro e w2 ⟨rfl, hk⟩
      have HK : Hid (Keeps w w2) := HK.out.call hk (Nat.le_refl _)
      have HA := Lib.hid (HA.out.keeps hk)
      clear hk
      go_wp2_with fail
      refine Calls.mono (gave (sdown_any _ m _ HA.out) e1.out) ?_
      rintro e w3 ⟨v, rfl, hv, hk⟩
      have HK : Hid (Keeps w w3) := HK.out.call hk (Nat.le_refl _)
      have HA := Lib.hid (HA.out.keeps hk)
      obtain ⟨p0, q0, rfl⟩ := seq_shape (l := ([] : List (List UInt8))) hv.at_
      clear hk hv
      go_wp2_with fail
      refine Calls.mono (gaveI (rank_any _ m _ HA.out) e2.out) ?_
      rintro e w4 ⟨rfl, hk⟩
      have HK : Hid (Keeps w w4) := HK.out.call hk (Nat.le_refl _)
      have HA := Lib.hid (HA.out.keeps hk)
      clear hk
      go_wp2_with fail
      refine Calls.mono (refmay04_is _ m _ HA.out _ MA.out) ?_
      rintro e w5 ⟨rfl, hk⟩
      have HK : Hid (Keeps w w5) := HK.out.call hk (Nat.le_refl _)
      clear hk
      go_wp2
      go_ret
      exact ⟨rfl, HK.out⟩
    | true =>
      obtain ⟨a1, a2, a3, a4, hR⟩ := may_cols hm
      obtain ⟨d1, d2, d3, d4⟩ := down_twice hm
      obtain ⟨piv, hE⟩ := LA.dn_ech hR (colsN m)
      have hDl := dn_len m (colsN m)
      generalize (LA.dn m (colsN m)).1 = D at *
      generalize (LA.dn m (colsN m)).2 = d at *
      have E1 := Lib.hid d1
      have E2 := Lib.hid d2
      have E3 := Lib.hid d3
      have E4 := Lib.hid d4
      have HE := Lib.hid hE
      have HDL := Lib.hid hDl
      have hdl := hE.dle
      have hdn := hE.dn_le
      have H1 := Lib.hid a1
      have H3 := Lib.hid a3
      have f1 : decide ((m.length : Int) < (d : Int)) = false := decide_eq_false (by omega)
      have f1' : decide (m.length < d) = false := decide_eq_false (by omega)
      have f2 : decide ((colsN m : Int) < (d : Int)) = false := decide_eq_false (by omega)
      have f2' : decide (colsN m < d) = false := decide_eq_false (by omega)
      have i0 : (0 : Int) < (m.length : Int) := by omega
      have H255 : Hid (D.length ≤ 255 ∧ colsN m ≤ 255) := ⟨by omega, a4⟩
      have HLe : Hid (d ≤ D.length ∧ d ≤ colsN m) := ⟨hdl, hdn⟩
      clear hm d1 d2 d3 d4 hE hR hDl a1 a2 a3 a4 hdl hdn
      go_enter Try.func11, Try.ntmps11
      go_wp2_with fail
      refine Calls.mono (long_is _ m _ HA.out _ hl) ?_
      rintro e w1 ⟨rfl, hk⟩
      have HK := Lib.hid hk
      have HA := Lib.hid (HA.out.keeps hk)
      clear hk
      go_wp2_with fail
      refine Calls.mono (awake_any _) ?_
      rintro e w2 ⟨rfl, hk⟩
      have HK : Hid (Keeps w w2) := HK.out.call hk (Nat.le_refl _)
      have HA := Lib.hid (HA.out.keeps hk)
      clear hk
      go_wp2_with fail
      refine Calls.mono (gave (sdown_any _ m _ HA.out) E1.out) ?_
      rintro e w3 ⟨v, rfl, hv, hk⟩
      have HK : Hid (Keeps w w3) := HK.out.call hk (Nat.le_refl _)
      have HA := Lib.hid (HA.out.keeps hk)
      have hv : MatAt w3.heap v D := hv.at_
      obtain ⟨pd, qd, rfl⟩ := seq_shape hv
      obtain ⟨bd, od, rfl⟩ := mat_addr hv (by have := H1.out; have := HDL.out; omega)
      have HD : Hid (MatAt w3.heap (.slice (some ⟨bd, od, none⟩) D.length qd) D) := hv
      clear hk hv
      go_wp2_with fail
      refine Calls.mono (gaveI (rank_any _ m _ HA.out) E2.out) ?_
      rintro e w4 ⟨rfl, hk⟩
      have HK : Hid (Keeps w w4) := HK.out.call hk (Nat.le_refl _)
      have HA := Lib.hid (HA.out.keeps hk)
      have HD := Lib.hid (HD.out.keeps hk)
      clear hk
      go_wp2_with fail
      refine Calls.mono (gave (sdown_any _ D _ HD.out) E3.out) ?_
      rintro e w5 ⟨v2, rfl, hv, hk⟩
      have HK : Hid (Keeps w w5) := HK.out.call hk (Nat.le_refl _)
      have HA := Lib.hid (HA.out.keeps hk)
      have HD := Lib.hid (HD.out.keeps hk)
      have HV : Hid (MatAt w5.heap v2 D) := hv.at_
      clear hk hv
      go_wp2_with fail
      refine Calls.mono (gaveI (rank_any _ D _ HD.out) E4.out) ?_
      rintro e w6 ⟨rfl, hk⟩
      have HK : Hid (Keeps w w6) := HK.out.call hk (Nat.le_refl _)
      have HA := Lib.hid (HA.out.keeps hk)
      have HD := Lib.hid (HD.out.keeps hk)
      have HV := Lib.hid (HV.out.keeps hk)
      clear hk
      go_wp2_with fail
      refine Calls.mono (same04_yes _ _ D _ HD.out HV.out) ?_
      rintro e w7 ⟨rfl, hk⟩
      have HK : Hid (Keeps w w7) := HK.out.call hk (Nat.le_refl _)
      have HA := Lib.hid (HA.out.keeps hk)
      have HD := Lib.hid (HD.out.keeps hk)
      clear hk HV
      obtain ⟨ba, oa, rfl⟩ := mat_addr HA.out H1.out
      obtain ⟨p0, q0, c0⟩ := row0y HA.out H1.out
      change w7.cell? _ = some (.slice p0 (colsN m) q0) at c0
      go_wp2_with fail
      generalize colsN m = N at *
      go_loopw [11, 12] (fun la i wr => ∃ (k : Nat) (l : Int), k ≤ D.length ∧ i = .int .i64 k ∧ la = .int .i64 l ∧ Hid (∀ j, k ≤ j → j < d → l < (piv j : Int)) ∧ ∃ q, wr = w7.drewN q) (fun _ i _ => D.length - (intOf i).toNat)
      case atStart => exact ⟨0, -1, by omega, rfl, rfl, fun j _ _ => by omega, 0, rfl⟩
      case round =>
        obtain ⟨k, l, hk, rfl, rfl, hla, q, rfl⟩ := hrel
        have HD : Hid (MatAt (w7.drewN q).heap (.slice (some ⟨bd, od, none⟩) D.length qd) D) := HD
        have HK : Hid (Keeps w (w7.drewN q)) := HK
        obtain ⟨hb1, hb2⟩ := H255.out
        by_cases hkl : k < D.length
        · obtain ⟨b1, o1, q1, r1, rs⟩ := row_cells HD.out HE.out.rect H3.out hkl
          have hkI : (k : Int) < (D.length : Int) := by omega
          have HRS := Lib.hid rs
          clear rs
          go_wp2
          go_loopw [13] (fun c wr => ∃ j : Nat, j ≤ N ∧ c = .int .i64 j ∧ Hid (∀ j', j' < j → LA.at_ D k j' = 0) ∧ ∃ q, wr = w7.drewN q) (fun c _ => N - (intOf c).toNat)
          case atStart => exact ⟨0, by omega, rfl, fun j h => by omega, q, rfl⟩
          case round =>
            obtain ⟨j, hj, rfl, hz, q', rfl⟩ := hrel
            have HD : Hid (MatAt (w7.drewN q').heap (.slice (some ⟨bd, od, none⟩) D.length qd) D) := HD
            have HK : Hid (Keeps w (w7.drewN q')) := HK
            have HRS : Hid (∀ j, j < N → (w7.drewN q').cell? ⟨b1, o1 + j, none⟩ = some (.int .u8 ((LA.at_ D k j).toNat : Int))) := HRS
            have r1 : (w7.drewN q').cell? ⟨bd, od + k, none⟩ = some (.slice (some ⟨b1, o1, none⟩) N q1) := r1
            by_cases hA : j < N ∧ LA.at_ D k j = 0
            · have hjN : (j : Int) < (N : Int) := by omega
              have cj := HRS.out j hA.1
              rw [hA.2] at cj
              change World.cell? _ _ = some (.int .u8 0) at cj
              have HZ : Hid (∀ j', j' < j + 1 → LA.at_ D k j' = 0) := fun j' h => by
                by_cases e : j' = j
                · subst e; exact hA.2
                · exact hz.out j' (by omega)
              have hj1 : j + 1 ≤ N := hA.1
              clear hA
              go_wp2
              exact ⟨⟨j + 1, hj1, rfl, HZ, q', rfl⟩, by simp [intOf]; omega⟩
            · by_cases hkd : k < d
              · have hjp : j = piv k := by
                  have p1 := HE.out.lt k hkd
                  have p2 := HE.out.one k hkd
                  rcases Nat.lt_trichotomy j (piv k) with h | h | h
                  · exact absurd ⟨by omega, HE.out.left k hkd j h⟩ hA
                  · exact h
                  · have := hz.out _ h
                    rw [this] at p2; cases p2
                have hjN' : j < N := by have := HE.out.lt k hkd; omega
                have hjN : (j : Int) < (N : Int) := by omega
                have cj := HRS.out j hjN'
                rw [hjp, HE.out.one k hkd, ← hjp] at cj
                change World.cell? _ _ = some (.int .u8 1) at cj
                have hlj : l < (j : Int) := by rw [hjp]; exact hla.out k (Nat.le_refl _) hkd
                have g1 : decide ((j : Int) < (N : Int)) = true := decide_eq_true hjN
                have g2 : decide ((k : Int) < (d : Int)) = true := decide_eq_true (by omega)
                have g2' : decide (k < d) = true := decide_eq_true hkd
                have g3 : decide ((d : Int) ≤ (k : Int)) = false := decide_eq_false (by omega)
                have g3' : decide (d ≤ k) = false := decide_eq_false (by omega)
                have g4 : decide ((j : Int) ≤ l) = false := decide_eq_false (by omega)
                have HCL : Hid (∀ t, t ≠ k → LA.at_ D t j = 0) := fun t ht => by rw [hjp]; exact HE.out.clear k hkd t ht
                have HLN : Hid (∀ t, k + 1 ≤ t → t < d → (j : Int) < (piv t : Int)) := fun t h1 h2 => by
                  have := HE.out.mono k t (by omega) h2
                  omega
                have HJ := Lib.hid hjN'
                clear hA hjp hjN' hkd
                go_wp2
                go_loopw [14] (fun i wr => ∃ t : Nat, t ≤ D.length ∧ i = .int .i64 t ∧ ∃ q, wr = w7.drewN q) (fun i _ => D.length - (intOf i).toNat)
                case atStart => exact ⟨0, by omega, rfl, q', rfl⟩
                case round =>
                  obtain ⟨t, ht, rfl, q2, rfl⟩ := hrel
                  have HD : Hid (MatAt (w7.drewN q2).heap (.slice (some ⟨bd, od, none⟩) D.length qd) D) := HD
                  have HK : Hid (Keeps w (w7.drewN q2)) := HK
                  by_cases htl : t < D.length
                  · have htI : (t : Int) < (D.length : Int) := by omega
                    by_cases htk : t = k
                    · have n1 : ((t : Int) != (k : Int)) = false := by rw [bne_eq_false_iff_eq, htk]
                      clear htk
                      go_wp2
                      exact ⟨⟨t + 1, by omega, rfl, q2, rfl⟩, by simp [intOf]; omega⟩
                    · have n1 : ((t : Int) != (k : Int)) = true := by rw [bne_iff_ne]; omega
                      obtain ⟨b2, o2, z2, r2, rs⟩ := row_cells HD.out HE.out.rect H3.out htl
                      have ct := rs j HJ.out
                      rw [HCL.out t htk] at ct
                      change World.cell? _ _ = some (.int .u8 0) at ct
                      clear rs htk
                      go_wp2
                      exact ⟨⟨t + 1, by omega, rfl, q2, rfl⟩, by simp [intOf]; omega⟩
                  · obtain rfl : t = D.length := by omega
                    go_wp2
                    exact ⟨⟨k + 1, j, by omega, rfl, rfl, HLN, q2, rfl⟩, by simp [intOf]; omega⟩
              · have hjN : j = N := by
                  have := HE.out.low k (by omega)
                  by_cases h : j < N
                  · exact absurd ⟨h, this j h⟩ hA
                  · omega
                have g2 : decide ((k : Int) < (d : Int)) = false := decide_eq_false (by omega)
                have g2' : decide (k < d) = false := decide_eq_false hkd
                have g3 : decide ((d : Int) ≤ (k : Int)) = true := decide_eq_true (by omega)
                have g3' : decide (d ≤ k) = true := decide_eq_true (by omega)
                have HLN : Hid (∀ t, k + 1 ≤ t → t < d → l < (piv t : Int)) := fun t h1 h2 => hla.out t (by omega) h2
                have g5 : decide ((j : Int) < (N : Int)) = false := decide_eq_false (by omega)
                have g5' : decide (j < N) = false := decide_eq_false (by omega)
                clear hA hjN
                go_wp2
                exact ⟨⟨k + 1, l, by omega, rfl, rfl, HLN, q', rfl⟩, by simp [intOf]; omega⟩
        · obtain rfl : k = D.length := by omega
          go_wp2
          go_ret
          exact ⟨rfl, HK.out⟩
end Go.Proofs.Ytojdodbedemkoaa
/- Inverses: the plain laws. No program in sight. -/
namespace Go.Proofs.Ytojdodbedemkoaa
def ap (n : Nat) (A : Nat → Nat → UInt8) (x : Nat → UInt8) (i : Nat) : UInt8 := LA.sum n fun j => LA.mul (A i j) (x j)
theorem ap_congr {n : Nat} {A B : Nat → Nat → UInt8} {x y : Nat → UInt8} {i : Nat} (h : ∀ j, j < n → A i j = B i j) (k : ∀ j, j < n → x j = y j) : ap n A x i = ap n B y i :=
  LA.sum_congr fun j hj => by rw [h j hj, k j hj]
theorem ap_zero {n : Nat} {A : Nat → Nat → UInt8} {x : Nat → UInt8} {i : Nat} (h : ∀ j, j < n → x j = 0) : ap n A x i = 0 := LA.sum_zero fun j hj => by rw [h j hj, LA.mul_zero]
theorem ap_pr {n : Nat} {A B : Nat → Nat → UInt8} {x : Nat → UInt8} {i : Nat} : ap n (fun i j => LA.sum n fun k => LA.mul (A i k) (B k j)) x i = ap n A (ap n B x) i := by
  unfold ap
  have e1 : (fun j => LA.mul (LA.sum n fun k => LA.mul (A i k) (B k j)) (x j)) = fun j => LA.sum n fun k => LA.mul (LA.mul (A i k) (B k j)) (x j) := by funext j; rw [LA.sum_mul]
  have e2 : (fun j => LA.mul (A i j) (LA.sum n fun k => LA.mul (B j k) (x k))) = fun j => LA.sum n fun k => LA.mul (LA.mul (A i j) (B j k)) (x k) := by
    funext j; rw [LA.mul_sum]; exact LA.sum_congr fun k _ => (LA.mul_assoc _ _ _).symm
  rw [e1, e2, LA.sum_comm]
theorem sol_ap {m : LA.Mat} {n : Nat} (hl : m.length = n) {x : Nat → UInt8} : LA.Sol m n x ↔ ∀ i, i < n → ap n (LA.at_ m) x i = 0 := by rw [LA.sol_iff, hl]; exact Iff.rfl
theorem full_ap {m : LA.Mat} {n : Nat} (h : LA.Rect m n) (hl : m.length = n) : (LA.dn m n).2 = n ↔ ∀ x, (∀ i, i < n → ap n (LA.at_ m) x i = 0) → ∀ j, j < n → x j = 0 := by
  rw [LA.full_iff h hl]
  exact forall_congr' fun x => by rw [sol_ap hl]
theorem drop_getD (l : List UInt8) (n j : Nat) : (l.drop n).getD j 0 = l.getD (n + j) 0 := by
  rw [List.getD_eq_getElem?_getD, List.getD_eq_getElem?_getD, List.getElem?_drop]
theorem turnOf_length (m : LA.Mat) : (turnOf m).length = m.length := by
  unfold turnOf wideM; rw [List.length_map, dn_len, beside_length]
/-- A square matrix of full rank, and the one that package solve hands back. -/
theorem turn_full {m : LA.Mat} {n : Nat} (h : LA.Rect m n) (hl : m.length = n) (hf : (LA.dn m n).2 = n) :
    LA.Rect (turnOf m) n ∧ ∀ x y : Nat → UInt8, (∀ i, i < n → ap n (LA.at_ m) x i = y i) ↔ ∀ i, i < n → x i = ap n (LA.at_ (turnOf m)) y i := by
  obtain ⟨e1, e2, e3, e4, e5, e6⟩ := LA.beside_full h hl hf (unitRow m.length) (fun i _ => unitRow_length _ _)
  rw [hl] at e1 e2 e3 e4 e5 e6
  have ew : turnOf m = (LA.dn (LA.beside m (unitRow n)) n).1.map (List.drop n) := by unfold turnOf wideM; rw [hl, e1]
  have eat : ∀ i j, LA.at_ (turnOf m) i j = LA.at_ (LA.dn (LA.beside m (unitRow n)) n).1 i (n + j) := fun i j => by
    rw [ew]
    unfold LA.at_
    rw [show ((LA.dn (LA.beside m (unitRow n)) n).1.map (List.drop n)).getD i [] = ((LA.dn (LA.beside m (unitRow n)) n).1.getD i []).drop n from by
      rw [List.getD_eq_getElem?_getD, List.getD_eq_getElem?_getD, List.getElem?_map]
      cases (LA.dn (LA.beside m (unitRow n)) n).1[i]? <;> simp]
    rw [drop_getD]
  refine ⟨fun r hr => ?_, fun x y => ?_⟩
  · rw [ew] at hr
    obtain ⟨r0, h0, rfl⟩ := List.mem_map.1 hr
    rw [List.length_drop, e4 r0 h0]; omega
  · have := e6 x y
    have ey : ∀ i, i < n → LA.dot n (unitRow n i) y = y i := fun i hi => by
      have : LA.dot n (unitRow n i) y = LA.sum n fun k => LA.mul (oneAt i k) (y k) := LA.sum_congr fun k hk => by rw [unitRow_at hk]
      rw [this]; exact one_sum n i hi y
    constructor
    · intro hx i hi
      rw [this.1 (fun i hi => by rw [ey i hi]; exact hx i hi) i hi]
      exact LA.sum_congr fun j _ => by rw [eat]
    · intro hx i hi
      have := this.2 (fun i hi => by rw [hx i hi]; exact LA.sum_congr fun j _ => by rw [eat]) i hi
      rw [ey i hi] at this; exact this
theorem prod_ap {a b : LA.Mat} {n : Nat} (hb : b.length = n) {x : Nat → UInt8} {i : Nat} (hi : i < n) : ap n (LA.at_ (matOf n n (prodAt a b))) x i = ap n (LA.at_ a) (ap n (LA.at_ b) x) i := by
  rw [← ap_pr]
  exact ap_congr (fun j hj => by rw [at_matOf _ hi hj]; unfold prodAt; rw [hb]) fun _ _ => rfl
theorem matOf_rect (r c : Nat) (g : Nat → Nat → UInt8) : LA.Rect (matOf r c g) c := fun x hx => by
  unfold matOf at hx
  obtain ⟨i, _, rfl⟩ := List.mem_map.1 hx
  simp
section
variable {a b : LA.Mat} {n : Nat} (ha : LA.Rect a n) (hb : LA.Rect b n) (la : a.length = n) (lb : b.length = n)
include ha hb la lb
theorem prod_full : (LA.dn (matOf n n (prodAt a b)) n).2 = n ↔ (LA.dn a n).2 = n ∧ (LA.dn b n).2 = n := by
  have hm := full_ap (matOf_rect n n (prodAt a b)) (matOf_length n n _)
  constructor
  · intro h
    have h1 := hm.1 h
    have fb : (LA.dn b n).2 = n := (full_ap hb lb).2 fun x hx => h1 x fun i hi => by rw [prod_ap lb hi]; exact ap_zero hx
    refine ⟨(full_ap ha la).2 fun x hx => ?_, fb⟩
    obtain ⟨_, hi⟩ := turn_full hb lb fb
    have e1 := (hi (ap n (LA.at_ (turnOf b)) x) x).2 fun _ _ => rfl
    have e2 := h1 (ap n (LA.at_ (turnOf b)) x) fun i hi => by
      rw [prod_ap lb hi, ap_congr (B := LA.at_ a) (y := x) (fun _ _ => rfl) e1]; exact hx i hi
    intro j hj
    rw [← e1 j hj]; exact ap_zero e2
  · rintro ⟨fa, fb⟩
    refine hm.2 fun x hx => (full_ap hb lb).1 fb x fun i hi => (full_ap ha la).1 fa _ (fun i hi => ?_) i hi
    rw [← prod_ap lb hi]; exact hx i hi
theorem turn_prod (fa : (LA.dn a n).2 = n) (fb : (LA.dn b n).2 = n) : turnOf (matOf n n (prodAt a b)) = matOf n n (prodAt (turnOf b) (turnOf a)) := by
  have fm := (prod_full ha hb la lb).2 ⟨fa, fb⟩
  obtain ⟨rm, hm⟩ := turn_full (matOf_rect n n (prodAt a b)) (matOf_length n n _) fm
  obtain ⟨_, hia⟩ := turn_full ha la fa
  obtain ⟨_, hib⟩ := turn_full hb lb fb
  have lm := turnOf_length (matOf n n (prodAt a b))
  rw [matOf_length] at lm
  have lta := turnOf_length a
  rw [la] at lta
  generalize turnOf (matOf n n (prodAt a b)) = X at *
  have key : ∀ i, i < n → ∀ j, j < n → LA.at_ X i j = prodAt (turnOf b) (turnOf a) i j := fun i hi j hj => by
    have c1 := (hm (ap n (LA.at_ X) (fun k => oneAt k j)) (fun k => oneAt k j)).2 fun _ _ => rfl
    have c2 := (hia (ap n (LA.at_ b) (ap n (LA.at_ X) (fun k => oneAt k j))) (fun k => oneAt k j)).1 fun i hi => by rw [← prod_ap lb hi]; exact c1 i hi
    have c3 := (hib (ap n (LA.at_ X) (fun k => oneAt k j)) (ap n (LA.at_ (turnOf a)) (fun k => oneAt k j))).1 c2 i hi
    have u : ∀ (A : Nat → Nat → UInt8) i, ap n A (fun k => oneAt k j) i = A i j := fun A i => sum_one n j hj (fun k => A i k)
    rw [u] at c3
    rw [c3]
    unfold prodAt
    rw [lta]
    exact LA.sum_congr fun k _ => by rw [u]
  by_cases h0 : n = 0
  · subst h0
    have : X = [] := List.length_eq_zero_iff.1 lm
    rw [this]; rfl
  · refine List.ext_getElem (by rw [lm, matOf_length]) fun i h1 h2 => ?_
    have hr := rm X[i] (List.getElem_mem h1)
    have e1 : X[i] = X.getD i [] := by rw [List.getD_eq_getElem?_getD, List.getElem?_eq_getElem h1]; rfl
    have e2 : (matOf n n (prodAt (turnOf b) (turnOf a)))[i] = (matOf n n (prodAt (turnOf b) (turnOf a))).getD i [] := by rw [List.getD_eq_getElem?_getD, List.getElem?_eq_getElem h2]; rfl
    rw [e2, matOf_row _ (by omega)]
    refine List.ext_getElem (by rw [hr]; simp) fun j h3 h4 => ?_
    have := key i (by omega) j (by omega)
    unfold LA.at_ at this
    rw [← e1, List.getD_eq_getElem?_getD, List.getElem?_eq_getElem h3] at this
    simpa using this
end
/-- What Turn tells of a square matrix. -/
theorem turnM_sq {m : LA.Mat} {n : Nat} (h : LA.Rect m n) (hl : m.length = n) (h1 : 1 ≤ n) (h2 : n ≤ 255) : turnM m = if (LA.dn m n).2 < n then ([], 5) else (turnOf m, 0) := by
  have hc := cols_rect h (by omega)
  unfold turnM
  rw [may_of h (by omega) (by omega) h1 h2, hc, hl, decide_eq_true rfl]; rfl
theorem dn2_le {m : LA.Mat} {n : Nat} (hl : m.length = n) : (LA.dn m n).2 ≤ n := by have := (LA.dn_length m n).2; omega
theorem product_cases {a b : LA.Mat} {n : Nat} (ha : LA.Rect a n) (hb : LA.Rect b n) (la : a.length = n) (lb : b.length = n) (h1 : 1 ≤ n) (h2 : n ≤ 12) :
    (∃ X Y, turnM a = (X, 0) ∧ turnM b = (Y, 0) ∧ turnM (matOf n n (prodAt a b)) = (matOf n n (prodAt Y X), 0) ∧ LA.Rect X n ∧ LA.Rect Y n ∧ X.length = n ∧ Y.length = n) ∨
    (∃ X, turnM a = (X, 0) ∧ turnM b = ([], 5) ∧ turnM (matOf n n (prodAt a b)) = ([], 5)) ∨
    (∃ Y r, turnM a = ([], 5) ∧ turnM b = (Y, r) ∧ turnM (matOf n n (prodAt a b)) = ([], 5)) := by
  have ea := turnM_sq ha la h1 (by omega)
  have eb := turnM_sq hb lb h1 (by omega)
  have em := turnM_sq (matOf_rect n n (prodAt a b)) (matOf_length n n _) h1 (by omega)
  have hp := prod_full ha hb la lb
  have l1 := dn2_le la
  have l2 := dn2_le lb
  have l3 := dn2_le (matOf_length n n (prodAt a b))
  by_cases fa : (LA.dn a n).2 = n
  · by_cases fb : (LA.dn b n).2 = n
    · refine Or.inl ⟨turnOf a, turnOf b, ?_, ?_, ?_, (turn_full ha la fa).1, (turn_full hb lb fb).1, by rw [turnOf_length, la], by rw [turnOf_length, lb]⟩
      · rw [ea, if_neg (by omega)]
      · rw [eb, if_neg (by omega)]
      · rw [em, if_neg (by have := hp.2 ⟨fa, fb⟩; omega), turn_prod ha hb la lb fa fb]
    · refine Or.inr (Or.inl ⟨turnOf a, by rw [ea, if_neg (by omega)], by rw [eb, if_pos (by omega)], ?_⟩)
      rw [em, if_pos]
      rcases Nat.lt_or_ge (LA.dn (matOf n n (prodAt a b)) n).2 n with h | h
      · exact h
      · exact absurd (hp.1 (by omega)).2 fb
  · refine Or.inr (Or.inr ⟨_, _, by rw [ea, if_pos (by omega)], rfl, ?_⟩)
    rw [em, if_pos]
    rcases Nat.lt_or_ge (LA.dn (matOf n n (prodAt a b)) n).2 n with h | h
    · exact h
    · exact absurd (hp.1 (by omega)).1 fa
end Go.Proofs.Ytojdodbedemkoaa
/- Inverses: the plain laws, on. No program in sight. -/
namespace Go.Proofs.Ytojdodbedemkoaa
theorem mat_ext {A B : LA.Mat} {r c : Nat} (la : A.length = r) (lb : B.length = r) (ra : LA.Rect A c) (rb : LA.Rect B c) (h : ∀ i, i < r → ∀ j, j < c → LA.at_ A i j = LA.at_ B i j) : A = B := by
  refine List.ext_getElem (by rw [la, lb]) fun i h1 h2 => ?_
  have e1 : A.getD i [] = A[i] := by rw [List.getD_eq_getElem?_getD, List.getElem?_eq_getElem h1]; rfl
  have e2 : B.getD i [] = B[i] := by rw [List.getD_eq_getElem?_getD, List.getElem?_eq_getElem h2]; rfl
  have r1 := ra A[i] (List.getElem_mem h1)
  have r2 := rb B[i] (List.getElem_mem h2)
  refine List.ext_getElem (by rw [r1, r2]) fun j h3 h4 => ?_
  have := h i (by omega) j (by omega)
  unfold LA.at_ at this
  rw [e1, e2, List.getD_eq_getElem?_getD, List.getD_eq_getElem?_getD, List.getElem?_eq_getElem h3, List.getElem?_eq_getElem h4] at this
  simpa using this
theorem ap_unit {n j : Nat} (hj : j < n) (A : Nat → Nat → UInt8) (i : Nat) : ap n A (fun k => oneAt k j) i = A i j := sum_one n j hj (fun k => A i k)
def colM (p : List UInt8) : LA.Mat := p.map fun x => [x]
theorem colM_length (p : List UInt8) : (colM p).length = p.length := List.length_map ..
theorem colM_rect (p : List UInt8) : LA.Rect (colM p) 1 := fun r hr => by
  unfold colM at hr
  obtain ⟨x, _, rfl⟩ := List.mem_map.1 hr
  rfl
theorem colM_at (p : List UInt8) (i : Nat) : LA.at_ (colM p) i 0 = p.getD i 0 := by
  unfold LA.at_ colM
  have : (p.map fun x => [x]).getD i [] = (p[i]?.map fun x => [x]).getD [] := by rw [List.getD_eq_getElem?_getD, List.getElem?_map]
  rw [this, List.getD_eq_getElem?_getD (l := p)]
  cases p[i]? <;> rfl
section
variable {m : LA.Mat} {n : Nat} (h : LA.Rect m n) (hl : m.length = n) (hf : (LA.dn m n).2 = n)
include h hl hf
theorem turn_back : (LA.dn (turnOf m) n).2 = n ∧ turnOf (turnOf m) = m := by
  obtain ⟨rx, hm⟩ := turn_full h hl hf
  have lx := turnOf_length m
  rw [hl] at lx
  generalize turnOf m = X at *
  have fx : (LA.dn X n).2 = n := (full_ap rx lx).2 fun y hy j hj => by
    have := (hm (fun _ => 0) y).2 fun i hi => (hy i hi).symm
    rw [← this j hj]; exact ap_zero fun _ _ => rfl
  refine ⟨fx, ?_⟩
  obtain ⟨rx2, hx⟩ := turn_full rx lx fx
  have lx2 := turnOf_length X
  rw [lx] at lx2
  generalize turnOf X = Z at *
  refine mat_ext lx2 hl rx2 h fun i hi j hj => ?_
  have e1 := (hx (ap n (LA.at_ Z) (fun k => oneAt k j)) (fun k => oneAt k j)).2 fun _ _ => rfl
  have e2 := (hm (fun k => oneAt k j) (ap n (LA.at_ Z) (fun k => oneAt k j))).2 (fun i hi => (e1 i hi).symm) i hi
  rw [ap_unit hj, ap_unit hj] at e2
  exact e2.symm
theorem turn_ones : matOf n n (prodAt m (turnOf m)) = matOf n n oneAt ∧ matOf n n (prodAt (turnOf m) m) = matOf n n oneAt := by
  obtain ⟨rx, hm⟩ := turn_full h hl hf
  have lx := turnOf_length m
  rw [hl] at lx
  generalize turnOf m = X at *
  refine ⟨matOf_congr fun i hi j hj => ?_, matOf_congr fun i hi j hj => ?_⟩
  · have := (hm (fun k => LA.at_ X k j) (fun k => oneAt k j)).2 (fun i _ => (ap_unit hj _ i).symm) i hi
    unfold prodAt
    rw [lx]; exact this
  · have := (hm (fun k => oneAt k j) (ap n (LA.at_ m) (fun k => oneAt k j))).1 (fun _ _ => rfl) i hi
    unfold prodAt
    rw [hl]
    refine Eq.trans ?_ this.symm
    exact LA.sum_congr fun k _ => by rw [ap_unit hj]
theorem solve_tells {v : List UInt8} : ∀ i, i < n → prodAt m (colM (solveOf m v)) i 0 = v.getD i 0 := by
  obtain ⟨e1, e2, e3, e4, e5, e6⟩ := LA.beside_full (k := 1) h hl hf (fun i => [v.getD i 0]) (fun i _ => rfl)
  have hp : ∀ k, k < n → (solveOf m v).getD k 0 = LA.at_ (LA.dn (LA.beside m fun i => [v.getD i 0]) n).1 k n := fun k hk => by
    unfold solveOf wideV
    rw [hl, range_at _ hk, e1]
  have := (e6 (fun k => (solveOf m v).getD k 0) (fun _ => 1)).2 fun i hi => by
    rw [hp i hi]
    show _ = 0 ^^^ LA.mul _ 1
    rw [LA.mul_one, LA.zero_xor]; rfl
  intro i hi
  have h1 := this i hi
  have ls : (colM (solveOf m v)).length = n := by rw [colM_length]; unfold solveOf; simp [hl]
  unfold prodAt
  rw [ls]
  have e : LA.dot 1 [v.getD i 0] (fun _ => 1) = v.getD i 0 := by
    show 0 ^^^ LA.mul _ 1 = _
    rw [LA.mul_one, LA.zero_xor]; rfl
  rw [e] at h1
  rw [← h1]
  exact LA.sum_congr fun k _ => by rw [colM_at]; rfl
end
theorem turned_cases {m : LA.Mat} {n : Nat} (h : LA.Rect m n) (hl : m.length = n) (h1 : 1 ≤ n) (h2 : n ≤ 255) :
    (∃ X, turnM m = (X, 0) ∧ rankM m = ((n : Int), 0) ∧ turnM X = (m, 0) ∧ LA.Rect X n ∧ X.length = n ∧ matOf n n (prodAt m X) = matOf n n oneAt ∧ matOf n n (prodAt X m) = matOf n n oneAt ∧
      ∀ v : List UInt8, v.length = n → ∃ P, solveM m v = (P, 0) ∧ P.length = n ∧ ∀ i, i < n → prodAt m (colM P) i 0 = v.getD i 0) ∨
    (∃ d : Nat, d < n ∧ turnM m = ([], 5) ∧ rankM m = ((d : Int), 0)) := by
  have em := turnM_sq h hl h1 h2
  have hc := cols_rect h (by omega)
  have hmay := may_of h (by omega) (by omega) h1 h2
  have er : rankM m = (((LA.dn m n).2 : Int), 0) := by unfold rankM; rw [hmay, hc]; rfl
  have l1 := dn2_le hl
  by_cases hf : (LA.dn m n).2 = n
  · obtain ⟨rx, _⟩ := turn_full h hl hf
    have lx := turnOf_length m
    rw [hl] at lx
    obtain ⟨b1, b2⟩ := turn_back h hl hf
    obtain ⟨o1, o2⟩ := turn_ones h hl hf
    refine Or.inl ⟨turnOf m, by rw [em, if_neg (by omega)], by rw [er, hf], ?_, rx, lx, o1, o2, fun v hv => ⟨solveOf m v, ?_, by unfold solveOf; simp [hl], solve_tells h hl hf⟩⟩
    · rw [turnM_sq rx lx h1 h2, if_neg (by omega), b2]
    · unfold solveM
      rw [hmay, hc, hl, hv, decide_eq_true rfl, hf, Bool.and_true, Bool.and_true, if_pos rfl, if_neg (by omega)]
  · exact Or.inr ⟨_, by omega, by rw [em, if_pos (by omega)], er⟩
end Go.Proofs.Ytojdodbedemkoaa
