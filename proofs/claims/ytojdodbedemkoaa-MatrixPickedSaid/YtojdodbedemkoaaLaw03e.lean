/- The walk of the law MatrixPicked. -/
import Derived.Test.YtojdodbedemkoaaWorks
import Derived.Test.YtojdodbedemkoaaMatLaw2
import Derived.Test.YtojdodbedemkoaaGive
import Derived.Test.YtojdodbedemkoaaOpenInts
namespace Go.Proofs.Ytojdodbedemkoaa
open Go.RowKit
theorem elInt : ElemTy Try.prog 34 3 (.int .i64 0) 8 := ⟨Try.underlying34, by kernel_rfl, rfl, by decide⟩
theorem take_snocI (f : Int → Int) (l : List Int) {k : Nat} (h : k < l.length) : (l.take (k + 1)).map f = (l.take k).map f ++ [f l[k]] := by
  rw [List.take_succ_eq_append_getElem h, List.map_append]; rfl
set_option maxRecDepth 100000 in
set_option maxHeartbeats 8000000 in
theorem picked_any (vm : Value) (m : List (List UInt8)) (va : Value) (a : List Int) (vb : Value) (b : List Int) (w : World)
    (hm : MatAt w.heap vm m) (ha : SeqAt IsInt w.heap va a) (hb : SeqAt IsInt w.heap vb b) :
    Calls Try.prog 14 #[vm, va, vb] w fun e w' => e = .returned (.bool true) ∧ Keeps w w' := by
  obtain ⟨pm, qm, rfl⟩ := seq_shape hm
  obtain ⟨pa, qa, rfl⟩ := seq_shape ha
  obtain ⟨pb, qb, rfl⟩ := seq_shape hb
  have hlm : m.length ≤ 9223372036854775807 := by obtain ⟨_, _, _, h, _⟩ := hm; exact h
  have HM := Lib.hid hm
  have HA := Lib.hid ha
  have HB := Lib.hid hb
  have HK : Hid (Keeps w w) := keeps_refl w
  clear hm ha hb
  by_cases hm : 40 < m.length
  ·
    have im : decide (40 < (m.length : Int)) = true := decide_eq_true (by omega)
    go_enter Try.func14, Try.ntmps14
    go_wp2_with fail
    refine Calls.mono (works_any w) ?_
    rintro e w1 ⟨rfl, hk⟩
    have HM := Lib.hid (MatAt.keeps HM.out hk)
    have HA := Lib.hid (SeqAt.keeps HA.out hk)
    have HB := Lib.hid (SeqAt.keeps HB.out hk)
    have HK : Hid (Keeps w w1) := HK.out.call hk (Nat.le_refl _)
    clear hk
    go_wp2_with fail
    refine Calls.mono (works_any w1) ?_
    rintro e w2 ⟨rfl, hk⟩
    have HM := Lib.hid (MatAt.keeps HM.out hk)
    have HA := Lib.hid (SeqAt.keeps HA.out hk)
    have HB := Lib.hid (SeqAt.keeps HB.out hk)
    have HK : Hid (Keeps w w2) := HK.out.call hk (Nat.le_refl _)
    clear hk
    go_wp2
    go_ret
    exact ⟨rfl, HK.out⟩
  ·
    have im : decide (40 < (m.length : Int)) = false := decide_eq_false (by omega)
    by_cases ha : 40 < a.length
    ·
      have ia : decide (40 < (a.length : Int)) = true := decide_eq_true (by omega)
      go_enter Try.func14, Try.ntmps14
      go_wp2_with fail
      refine Calls.mono (works_any w) ?_
      rintro e w3 ⟨rfl, hk⟩
      have HM := Lib.hid (MatAt.keeps HM.out hk)
      have HA := Lib.hid (SeqAt.keeps HA.out hk)
      have HB := Lib.hid (SeqAt.keeps HB.out hk)
      have HK : Hid (Keeps w w3) := HK.out.call hk (Nat.le_refl _)
      clear hk
      go_wp2_with fail
      refine Calls.mono (works_any w3) ?_
      rintro e w4 ⟨rfl, hk⟩
      have HM := Lib.hid (MatAt.keeps HM.out hk)
      have HA := Lib.hid (SeqAt.keeps HA.out hk)
      have HB := Lib.hid (SeqAt.keeps HB.out hk)
      have HK : Hid (Keeps w w4) := HK.out.call hk (Nat.le_refl _)
      clear hk
      go_wp2
      go_ret
      exact ⟨rfl, HK.out⟩
    ·
      have ia : decide (40 < (a.length : Int)) = false := decide_eq_false (by omega)
      by_cases hb : 40 < b.length
      ·
        have ib : decide (40 < (b.length : Int)) = true := decide_eq_true (by omega)
        go_enter Try.func14, Try.ntmps14
        go_wp2_with fail
        refine Calls.mono (works_any w) ?_
        rintro e w5 ⟨rfl, hk⟩
        have HM := Lib.hid (MatAt.keeps HM.out hk)
        have HA := Lib.hid (SeqAt.keeps HA.out hk)
        have HB := Lib.hid (SeqAt.keeps HB.out hk)
        have HK : Hid (Keeps w w5) := HK.out.call hk (Nat.le_refl _)
        clear hk
        go_wp2_with fail
        refine Calls.mono (works_any w5) ?_
        rintro e w6 ⟨rfl, hk⟩
        have HM := Lib.hid (MatAt.keeps HM.out hk)
        have HA := Lib.hid (SeqAt.keeps HA.out hk)
        have HB := Lib.hid (SeqAt.keeps HB.out hk)
        have HK : Hid (Keeps w w6) := HK.out.call hk (Nat.le_refl _)
        clear hk
        go_wp2
        go_ret
        exact ⟨rfl, HK.out⟩
      ·
        have ib : decide (40 < (b.length : Int)) = false := decide_eq_false (by omega)
        go_enter Try.func14, Try.ntmps14
        go_wp2_with fail
        refine Calls.mono (works_any w) ?_
        rintro e w7 ⟨rfl, hk⟩
        have HM := Lib.hid (MatAt.keeps HM.out hk)
        have HA := Lib.hid (SeqAt.keeps HA.out hk)
        have HB := Lib.hid (SeqAt.keeps HB.out hk)
        have HK : Hid (Keeps w w7) := HK.out.call hk (Nat.le_refl _)
        clear hk
        go_wp2_with fail
        clear im ia ib
        go_loop [7] (fun i => ∃ k : Nat, k ≤ m.length ∧ i = .int .i64 k) (fun i => m.length - (intOf i).toNat)
        case atStart => exact ⟨0, by omega, rfl⟩
        case round =>
          obtain ⟨k, hk, rfl⟩ := hrel
          by_cases hlt : k < m.length
          ·
            have hlt64 : (k : Int) < (m.length : Int) := by omega
            obtain ⟨bx, ox, cx, ux, e1, d1, r1⟩ := mat_row HM.out hlt
            injection e1 with e1 e2 e3
            subst e1
            obtain ⟨px, qx, rfl⟩ := seq_shape r1
            clear r1
            generalize (m.getD k []).length = len at *
            by_cases h40 : 40 < len
            ·
              have h41 : decide (40 < (len : Int)) = true := decide_eq_true (by omega)
              go_wp2
              go_ret
              exact ⟨rfl, HK.out⟩
            ·
              have h41 : decide (40 < (len : Int)) = false := decide_eq_false (by omega)
              go_wp2
              go_round
              case rel => exact ⟨k + 1, by omega, rfl⟩
              case measure => simp [intOf]; omega
          ·
            obtain rfl : k = m.length := by omega
            by_cases hr : (rowsM m a).2 = 0
            ·
              obtain ⟨X, O, Q, hX, hO, hQ, hP, hXl⟩ := picked_one hr
              have EX := Lib.hid hX
              have EO := Lib.hid hO
              have EQ := Lib.hid hQ
              have EP := Lib.hid hP
              have hXn : ((X.length : Int) != (a.length : Int)) = false := by rw [bne_eq_false_iff_eq, hXl]
              clear hX hO hQ hP hr hXl
              go_wp2_with fail
              refine Calls.mono (gave (matrows_any _ _ m a w7 HM.out HA.out) EX.out) ?_
              rintro e w8 ⟨v1, rfl, hHX, hk⟩
              have HM := Lib.hid (MatAt.keeps HM.out hk)
              have HA := Lib.hid (SeqAt.keeps HA.out hk)
              have HB := Lib.hid (SeqAt.keeps HB.out hk)
              have HK : Hid (Keeps w w8) := HK.out.call hk (Nat.le_refl _)
              clear hk
              have HX := Lib.hid hHX.at_
              clear hHX
              obtain ⟨px, qx, ex⟩ := seq_shape HX.out
              subst ex
              go_wp2_with fail
              refine Calls.mono (gave (matone_any (m.length : Int) w8) EO.out) ?_
              rintro e w9 ⟨v2, rfl, hHO, hk⟩
              have HM := Lib.hid (MatAt.keeps HM.out hk)
              have HA := Lib.hid (SeqAt.keeps HA.out hk)
              have HB := Lib.hid (SeqAt.keeps HB.out hk)
              have HX := Lib.hid (MatAt.keeps HX.out hk)
              have HK : Hid (Keeps w w9) := HK.out.call hk (Nat.le_refl _)
              clear hk
              have HO := Lib.hid hHO.at_
              clear hHO
              go_wp2_with fail
              refine Calls.mono (gave (matrows_any _ _ O a w9 HO.out HA.out) EQ.out) ?_
              rintro e w10 ⟨v3, rfl, hHQ, hk⟩
              have HM := Lib.hid (MatAt.keeps HM.out hk)
              have HA := Lib.hid (SeqAt.keeps HA.out hk)
              have HB := Lib.hid (SeqAt.keeps HB.out hk)
              have HX := Lib.hid (MatAt.keeps HX.out hk)
              have HO := Lib.hid (MatAt.keeps HO.out hk)
              have HK : Hid (Keeps w w10) := HK.out.call hk (Nat.le_refl _)
              clear hk
              have HQ := Lib.hid hHQ.at_
              clear hHQ
              go_wp2_with fail
              refine Calls.mono (gave (matmul_any _ _ Q m w10 HQ.out HM.out) EP.out) ?_
              rintro e w11 ⟨v4, rfl, hHP, hk⟩
              have HM := Lib.hid (MatAt.keeps HM.out hk)
              have HA := Lib.hid (SeqAt.keeps HA.out hk)
              have HB := Lib.hid (SeqAt.keeps HB.out hk)
              have HX := Lib.hid (MatAt.keeps HX.out hk)
              have HQ := Lib.hid (MatAt.keeps HQ.out hk)
              have HK : Hid (Keeps w w11) := HK.out.call hk (Nat.le_refl _)
              clear hk
              have HP := Lib.hid hHP.at_
              clear hHP
              go_wp2_with fail
              refine Calls.mono (kept (matsame_yes _ _ X X w11 HP.out HX.out rfl)) ?_
              rintro e w12 ⟨rfl, hk⟩
              have HM := Lib.hid (MatAt.keeps HM.out hk)
              have HA := Lib.hid (SeqAt.keeps HA.out hk)
              have HB := Lib.hid (SeqAt.keeps HB.out hk)
              have HX := Lib.hid (MatAt.keeps HX.out hk)
              have HK : Hid (Keeps w w12) := HK.out.call hk (Nat.le_refl _)
              clear hk
              by_cases hs : (rowsM X b).2 = 0
              ·
                obtain ⟨Y, hY, hin, hb12, hZ⟩ := picked_rows EX.out hs
                have EY := Lib.hid hY
                have EZ := Lib.hid hZ
                have HIN := Lib.hid hin
                clear hY hZ hin hs
                go_wp2_with fail
                refine Calls.mono (gave (matrows_any _ _ X b w12 HX.out HB.out) EY.out) ?_
                rintro e w13 ⟨v5, rfl, hHY, hk⟩
                have HM := Lib.hid (MatAt.keeps HM.out hk)
                have HA := Lib.hid (SeqAt.keeps HA.out hk)
                have HB := Lib.hid (SeqAt.keeps HB.out hk)
                have HX := Lib.hid (MatAt.keeps HX.out hk)
                have HK : Hid (Keeps w w13) := HK.out.call hk (Nat.le_refl _)
                clear hk
                have HY := Lib.hid hHY.at_
                clear hHY
                go_wp2_with fail
                clear hXn
                go_loopw [17, 18] (fun v i wr => ∃ k : Nat, k ≤ b.length ∧ i = .int .i64 k ∧ Hid (OwnSeq w13.heap.size 3 IsInt wr v ((b.take k).map fun i => a.getD i.toNat 0)) ∧ Hid (Keeps w13 wr)) (fun _ i _ => b.length - (intOf i).toNat)
                case atStart => exact ⟨0, by omega, rfl, OwnSeq.nil _ _ _ _, keeps_refl _⟩
                case round =>
                  obtain ⟨k, hk, rfl, hR, hK⟩ := hrel
                  by_cases hlt : k < b.length
                  ·
                    have hlt64 : (k : Int) < (b.length : Int) := by omega
                    obtain ⟨x1, x2⟩ := HIN.out b[k] (List.getElem_mem hlt)
                    have HX1 := Lib.hid (take_snocI (fun i => a.getD i.toNat 0) b hlt)
                    obtain ⟨bb, ob, cb, ub, e1, d1, r1⟩ := seq_cell (SeqAt.keeps HB.out hK.out) hlt
                    injection e1 with e1 e2 e3
                    subst e1 e3 r1
                    clear e2
                    obtain ⟨I, hI⟩ := Int.eq_ofNat_of_zero_le x1
                    rw [hI] at x2 d1
                    have HX1 : Hid ((b.take (k + 1)).map (fun i => a.getD i.toNat 0) = (b.take k).map (fun i => a.getD i.toNat 0) ++ [a.getD I 0]) := by have := HX1.out; rw [hI] at this; exact this
                    clear hI x1
                    have hi : I < a.length := by omega
                    have x1 : (0 : Int) ≤ (I : Int) := by omega
                    obtain ⟨ba, oa, ca, ua, e1, d2, r2⟩ := seq_cell (SeqAt.keeps HA.out hK.out) hi
                    injection e1 with e1 e4 e5
                    subst e1 e5 r2
                    clear e4
                    have ey : a[I] = a.getD I 0 := by rw [List.getD_eq_getElem?_getD, List.getElem?_eq_getElem hi]; rfl
                    rw [ey] at d2
                    clear ey
                    obtain ⟨us, hu1, hu2, hu3⟩ := hR.out
                    have hul : us.length = k := by rw [hu2]; simp; omega
                    have HU := Lib.hid hu1
                    have HL5 := Lib.hid hu2
                    have HL6 := Lib.hid hul
                    have H3 := Lib.hid hu3
                    have hsz := hK.out.size
                    clear hu1 hu2 hul hu3
                    generalize a.getD I 0 = y at *
                    go_wp2_with (at_builtin; refine wp_app1 elInt rfl _ _ rfl w13.heap.size u17 us rfl (HU.out.alloc _) _ (.int .i64 y) rfl ?c1 rfl ?c2 ?c3 ?_)
                    case c1 => first | exact World.cell?_alloc_new _ _ _ _ | simp [go_sem]
                    case c2 => have := HL6.out; omega
                    case c3 => first | omega | (simp; omega)
                    intro v' w20 hown hchg
                    have hpush : Hid (OwnSeq w13.heap.size 3 IsInt w20 v' ((b.take k).map (fun i => a.getD i.toNat 0) ++ [y])) := OwnSeq.push (R := IsInt) HL5.out H3.out hown (fun _ _ _ x => x) rfl
                    have hk2 : Hid (Keeps w13 w20) := ((hK.out.chg.trans ((Chg.refl (fun x => w13.heap.size ≤ x) wr).alloc _)).trans (hchg.mono fun x _ hx => (own_block HU.out x hx).1)).keeps fun x hx h => by omega
                    clear hown hchg
                    go_wp2
                    exact ⟨⟨k + 1, by omega, rfl, by rw [HX1.out]; exact hpush.out, hk2⟩, by simp [intOf]; omega⟩
                  ·
                    obtain rfl : k = b.length := by omega
                    have HS : Hid (SeqAt IsInt wr.heap u17 (b.map fun i => a.getD i.toNat 0)) := by have := hR.out; rw [List.take_length] at this; exact (this.seq (by simp; omega)).at_
                    have hk := hK.out
                    have HM := Lib.hid (MatAt.keeps HM.out hk)
                    have HY := Lib.hid (MatAt.keeps HY.out hk)
                    have HK : Hid (Keeps w wr) := HK.out.call hk (Nat.le_refl _)
                    clear hk
                    go_wp2_with fail
                    refine Calls.mono (gave (matrows_any _ _ m _ wr HM.out HS.out) EZ.out) ?_
                    rintro e w14 ⟨v6, rfl, hHZ, hk⟩
                    have HM := Lib.hid (MatAt.keeps HM.out hk)
                    have HY := Lib.hid (MatAt.keeps HY.out hk)
                    have HK : Hid (Keeps w w14) := HK.out.call hk (Nat.le_refl _)
                    clear hk
                    have HZ := Lib.hid hHZ.at_
                    clear hHZ
                    go_wp2_with fail
                    refine Calls.mono (kept (matsame_yes _ _ Y Y w14 HY.out HZ.out rfl)) ?_
                    rintro e w15 ⟨rfl, hk⟩
                    have HM := Lib.hid (MatAt.keeps HM.out hk)
                    have HY := Lib.hid (MatAt.keeps HY.out hk)
                    have HZ := Lib.hid (MatAt.keeps HZ.out hk)
                    have HK : Hid (Keeps w w15) := HK.out.call hk (Nat.le_refl _)
                    clear hk
                    go_wp2
                    go_ret
                    exact ⟨rfl, HK.out⟩
              ·
                obtain ⟨E, hE, hY⟩ := picked_no hs
                have EY := Lib.hid hY
                have e0 : (E != 0) = true := by simp [hE]
                clear hY hs hE
                go_wp2_with fail
                refine Calls.mono (gave (matrows_any _ _ X b w12 HX.out HB.out) EY.out) ?_
                rintro e w16 ⟨v5, rfl, hHY, hk⟩
                have HM := Lib.hid (MatAt.keeps HM.out hk)
                have HA := Lib.hid (SeqAt.keeps HA.out hk)
                have HB := Lib.hid (SeqAt.keeps HB.out hk)
                have HX := Lib.hid (MatAt.keeps HX.out hk)
                have HK : Hid (Keeps w w16) := HK.out.call hk (Nat.le_refl _)
                clear hk
                have HY := Lib.hid hHY.at_
                clear hHY
                obtain ⟨p5, q5, e5⟩ := seq_shape HY.out
                subst e5
                go_wp2
                go_ret
                exact ⟨rfl, HK.out⟩
            ·
              obtain ⟨E, hE, hX⟩ := picked_no hr
              have EX := Lib.hid hX
              have e0 : (E != 0) = true := by simp [hE]
              clear hX hr hE
              go_wp2_with fail
              refine Calls.mono (gave (matrows_any _ _ m a w7 HM.out HA.out) EX.out) ?_
              rintro e w17 ⟨v1, rfl, hHX, hk⟩
              have HM := Lib.hid (MatAt.keeps HM.out hk)
              have HA := Lib.hid (SeqAt.keeps HA.out hk)
              have HB := Lib.hid (SeqAt.keeps HB.out hk)
              have HK : Hid (Keeps w w17) := HK.out.call hk (Nat.le_refl _)
              clear hk
              have HX := Lib.hid hHX.at_
              clear hHX
              obtain ⟨p5, q5, e5⟩ := seq_shape HX.out
              subst e5
              go_wp2
              go_ret
              exact ⟨rfl, HK.out⟩
end Go.Proofs.Ytojdodbedemkoaa
