/- The walk of strongboxref03.Mul. -/
import Derived.Test.YtojdodbedemkoaaRefMay
namespace Go.Proofs.Ytojdodbedemkoaa
open Go.RowKit

theorem refmay_yes (va : Value) (m : List (List UInt8)) (w : World) (hm : MatAt w.heap va m) (h : mayB 12 m = true) : Calls Try.prog 31 #[va] w fun e w' => e = .returned (.bool true) ∧ ∃ n, w' = w.drewN n := by
  have := refmay_any va m w hm; rw [h] at this; exact this
theorem refmay_no (va : Value) (m : List (List UInt8)) (w : World) (hm : MatAt w.heap va m) (h : mayB 12 m = false) : Calls Try.prog 31 #[va] w fun e w' => e = .returned (.bool false) ∧ ∃ n, w' = w.drewN n := by
  have := refmay_any va m w hm; rw [h] at this; exact this
theorem grefmul (x y : UInt8) (w : World) :
    Calls Try.prog 59 #[.int .u8 (x.toNat : Int), .int .u8 (y.toNat : Int)] w fun e w' => e = .returned (.int .u8 ((LA.mul x y).toNat : Int)) ∧ w = w' := by
  have hx := x.toNat_lt
  have hy := y.toNat_lt
  refine (refmul_any _ _ w (by omega) (by omega)).mono ?_
  rintro e w' ⟨rfl, h⟩
  exact ⟨by rw [LA.mul_toNat]; rfl, h⟩
theorem gxor (x y : UInt8) : bits .xor .u8 (x.toNat : Int) (y.toNat : Int) = ((x ^^^ y).toNat : Int) := by
  rw [xor_u8 _ _ x.toNat_lt y.toNat_lt, LA.xor_toNat]

set_option maxRecDepth 100000 in
set_option maxHeartbeats 4000000 in
theorem refmulm_any (va vb : Value) (a b : List (List UInt8)) (w : World) (ha : MatAt w.heap va a) (hb : MatAt w.heap vb b) :
    Calls Try.prog 24 #[va, vb] w (GiveMat w (mulM a b)) := by
  obtain ⟨pa, qa, rfl⟩ := seq_shape ha
  obtain ⟨pb, qb, rfl⟩ := seq_shape hb
  have HA := Lib.hid ha
  have HB := Lib.hid hb
  cases ma : mayB 12 a with
  | false =>
    have e : Hid (mulM a b = ([], 4)) := by show _ = _; unfold mulM; rw [ma]; rfl
    have MA := Lib.hid ma
    clear ha hb ma
    go_enter Try.func24, Try.ntmps24
    go_wp2_with (first | (go_at_call 31; refine Calls.mono (refmay_no _ a _ ?_ MA.out) ?_; exact HA.out; rintro e w' ⟨rfl, n, rfl⟩))
    go_ret2
    rw [e.out]
    exact GiveMat.err (keeps_refl _)
  | true =>
    obtain ⟨a1, a2, a3, a4, a5⟩ := mayB_iff.1 ma
    obtain ⟨b1, o1, p1, q1, rfl, d1⟩ := row0' ha a1
    have MA := Lib.hid ma
    cases mb : mayB 12 b with
    | false =>
      have e : Hid (mulM a b = ([], 4)) := by show _ = _; unfold mulM; rw [ma, mb]; rfl
      have MB := Lib.hid mb
      clear ha hb ma mb a1 a2 a3 a4 a5 d1
      go_enter Try.func24, Try.ntmps24
      go_wp2_with (first | (go_at_call 31; (with_reducible refine Calls.mono (refmay_yes _ a _ ?_ MA.out) ?_); exact HA.out; rintro e w' ⟨rfl, n1, rfl⟩) | (go_at_call 31; (with_reducible refine Calls.mono (refmay_no _ b _ ?_ MB.out) ?_); exact HB.out; rintro e w' ⟨rfl, n, rfl⟩))
      go_ret2
      rw [e.out]
      exact GiveMat.err (keeps_refl _)
    | true =>
      obtain ⟨b1', b2', b3, b4, b5⟩ := mayB_iff.1 mb
      obtain ⟨b2, o2, p2, q2, rfl, d2⟩ := row0' hb b1'
      have MB := Lib.hid mb
      clear ha hb ma mb
      have i3 : 0 < a.length := by omega
      have i4 : 0 < b.length := by omega
      obtain ⟨na, hna⟩ : ∃ na, na = (a.headD []).length := ⟨_, rfl⟩
      obtain ⟨nb, hnb⟩ : ∃ nb, nb = (b.headD []).length := ⟨_, rfl⟩
      rw [← hna] at a3 a4 d1
      rw [← hnb] at b3 b4 d2
      clear a5 b5
      have HNA := Lib.hid hna
      have HNB := Lib.hid hnb
      clear hna hnb
      by_cases hl : na = b.length
      · have e : Hid (mulM a b = (matOf a.length nb (prodAt a b), 0)) := by show _ = _; unfold mulM; rw [MA.out, MB.out, ← HNA.out, ← HNB.out, decide_eq_true hl]; rfl
        have hne : ((na : Int) != (b.length : Int)) = false := by rw [bne_eq_false_iff_eq, hl]
        have HL := Lib.hid hl
        clear hl
        go_enter Try.func24, Try.ntmps24
        go_wp2_with (first | (go_at_call 31; (with_reducible refine Calls.mono (refmay_yes _ a _ ?_ MA.out) ?_); exact HA.out; rintro e w' ⟨rfl, n1, rfl⟩) | (go_at_call 31; (with_reducible refine Calls.mono (refmay_yes _ b _ ?_ MB.out) ?_); exact HB.out; rintro e w' ⟨rfl, n2, rfl⟩))
        have HAz : Hid (MatAt (w.drewN (n1 + n2)).heap (.slice (some ⟨b1, o1, none⟩) a.length qa) a) := HA
        have HBz : Hid (MatAt (w.drewN (n1 + n2)).heap (.slice (some ⟨b2, o2, none⟩) b.length qb) b) := HB
        have HKz : Hid (Keeps w (w.drewN (n1 + n2))) := keeps_refl w
        have d2 : (w.drewN (n1 + n2)).cell? ⟨b2, o2, none⟩ = some (.slice p2 nb q2) := d2
        generalize w.drewN (n1 + n2) = wz at *
        go_loopw [6, 7] (fun v i wr => ∃ k : Nat, k ≤ a.length ∧ i = .int .i64 k ∧ Hid (OwnRows wz.heap.size wr v (matOf k nb (prodAt a b))) ∧ Hid (Keeps wz wr)) (fun _ i _ => a.length - (intOf i).toNat)
        case atStart => exact ⟨0, by omega, rfl, OwnSeq.nil _ _ _ _, keeps_refl wz⟩
        case round =>
          obtain ⟨k, hk, rfl, hR, hK⟩ := hrel
          obtain ⟨wo, rfl⟩ : ∃ wo : World, wo = wr := ⟨_, rfl⟩
          by_cases hlt : k < a.length
          · have hlt64 : (k : Int) < (a.length : Int) := by omega
            go_wp2_with fail
            go_loopw [8, 9] (fun v j wi => ∃ jj : Nat, jj ≤ nb ∧ j = .int .i64 jj ∧ Hid (OwnSeq wo.heap.size 5 IsByte wi v ((List.range jj).map (prodAt a b k))) ∧ Hid (Keeps wo wi)) (fun _ j _ => nb - (intOf j).toNat)
            case atStart => exact ⟨0, by omega, rfl, OwnSeq.nil _ _ _ _, keeps_refl wo⟩
            case round =>
              obtain ⟨j, hj, rfl, hr, hk1⟩ := hrel
              obtain ⟨wi, rfl⟩ : ∃ wi : World, wi = wr := ⟨_, rfl⟩
              have d2 := keeps_cell (hK.out.call hk1.out (Nat.le_refl _)) d2
              by_cases hjl : j < nb
              · have hj64 : (j : Int) < (nb : Int) := by omega
                have HAi := Lib.hid (HAz.out.keeps (hK.out.call hk1.out (Nat.le_refl _)))
                have HBi := Lib.hid (HBz.out.keeps (hK.out.call hk1.out (Nat.le_refl _)))
                go_wp2_with fail
                go_loopw [10, 11] (fun x t wt => ∃ tt : Nat, tt ≤ b.length ∧ t = .int .i64 tt ∧ x = .int .u8 ((LA.sum tt fun q => LA.mul (LA.at_ a k q) (LA.at_ b q j)).toNat : Int) ∧ ∃ n, wt = wi.drewN n) (fun _ t _ => b.length - (intOf t).toNat)
                case atStart => exact ⟨0, by omega, rfl, rfl, 0, rfl⟩
                case round =>
                  obtain ⟨t, ht, rfl, rfl, n0, rfl⟩ := hrel
                  by_cases htl : t < b.length
                  · have ht64 : (t : Int) < (b.length : Int) := by omega
                    obtain ⟨c1, c2, c3, c4, c5, c6, e1, f1, f2⟩ := mat_cell (j := t) HAi.out hlt (by rw [may_row MA.out hlt, ← HNA.out, HL.out]; exact htl)
                    obtain ⟨g1, g2, g3, g4, g5, g6, e2, f3, f4⟩ := mat_cell (j := j) HBi.out htl (by rw [may_row MB.out htl, ← HNB.out]; exact hjl)
                    rw [may_row MA.out hlt, ← HNA.out] at f1
                    rw [may_row MB.out htl, ← HNB.out] at f3
                    injection e1 with e3 e4 e5
                    injection e3 with e3
                    injection e3 with e6 e7
                    subst e6 e7
                    injection e2 with e8 e9 e10
                    injection e8 with e8
                    injection e8 with e11 e12
                    subst e11 e12
                    have hx := gxor (LA.sum t fun q => LA.mul (LA.at_ a k q) (LA.at_ b q j)) (LA.mul (LA.at_ a k t) (LA.at_ b t j))
                    have hs : Hid (LA.sum (t + 1) (fun q => LA.mul (LA.at_ a k q) (LA.at_ b q j)) = LA.sum t (fun q => LA.mul (LA.at_ a k q) (LA.at_ b q j)) ^^^ LA.mul (LA.at_ a k t) (LA.at_ b t j)) := rfl
                    have hlna : (t : Int) < (na : Int) := by have := HL.out; omega
                    generalize LA.sum t (fun q => LA.mul (LA.at_ a k q) (LA.at_ b q j)) = s at *
                    generalize LA.at_ a k t = x at *
                    generalize LA.at_ b t j = y at *
                    clear e4 e5 e9 e10
                    go_wp2_with fail
                    go_quiet (first | (go_at_call 59; refine Calls.mono (grefmul _ _ _) ?_; rintro e w' ⟨rfl, rfl⟩; exact ⟨rfl, _, rfl⟩))
                    go_wp2
                    exact ⟨⟨t + 1, by omega, rfl, by rw [hs.out]; rfl, _, rfl⟩, by simp [intOf]; omega⟩
                  · obtain rfl : t = b.length := by omega
                    obtain ⟨us, hu1, hu2, hu3⟩ := hr.out
                    have hul : us.length = j := by rw [hu2]; simp
                    have HU := Lib.hid hu1
                    have HL2 := Lib.hid hu2
                    have HL3 := Lib.hid hul
                    have H3 := Lib.hid hu3
                    have hsz := hk1.out.size
                    have hpe : Hid (LA.sum b.length (fun q => LA.mul (LA.at_ a k q) (LA.at_ b q j)) = prodAt a b k j) := rfl
                    rw [hpe.out]
                    clear hu1 hu2 hul hu3
                    have HUn : Hid ((wi.drewN n0).ownsRow wo.heap.size 5 1 u8 us.length us) := HU.out
                    go_wp2_with (at_builtin; refine wp_app1 elRow rfl _ _ rfl wo.heap.size u8 us rfl (HUn.out.alloc _) _ (.int .u8 ((prodAt a b k j).toNat : Int)) rfl ?c1 rfl ?c2 ?c3 ?_)
                    case c1 => exact World.cell?_alloc_new _ _ _ _
                    case c2 => have := HL3.out; omega
                    case c3 => simp; omega
                    intro v' w2 hown hchg
                    have hpush : OwnSeq wo.heap.size 5 IsByte w2 v' (((List.range j).map (prodAt a b k)) ++ [prodAt a b k j]) := OwnSeq.push (R := IsByte) HL2.out H3.out hown (fun _ _ _ x => x) rfl
                    have hk2 : Hid (Keeps wo w2) := ((hk1.out.chg.trans ((Chg.refl (fun x => wo.heap.size ≤ x) (wi.drewN n0)).alloc _)).trans (hchg.mono fun x _ hx => (own_block HU.out x hx).1)).keeps fun x hx h => by omega
                    have HP := Lib.hid hpush
                    clear hown hchg hpush
                    go_wp2
                    exact ⟨⟨j + 1, by omega, rfl, by have := HP.out; rw [List.range_succ, List.map_append]; exact this, hk2⟩, by simp [intOf]; omega⟩
              · obtain rfl : j = nb := by omega
                obtain ⟨us, hu1, hu2, hu3⟩ := hR.out
                have hul : us.length = k := by rw [hu2]; simp [matOf]
                have HU := Lib.hid hu1
                have HL2 := Lib.hid hu2
                have HL3 := Lib.hid hul
                have H3 := Lib.hid hu3
                have hs1 := hK.out.size
                have hs2 := hk1.out.size
                clear hu1 hu2 hul hu3
                have HO : Hid (wi.ownsRow wz.heap.size 33 1 u6 us.length us) := owns_chg HU.out hk1.out.chg fun x hx h => by have := (own_block HU.out x hx).2.1; omega
                have HROW : Hid (RowIn (wz.heap.size ≤ ·) wi.heap u8 ((List.range j).map (prodAt a b k))) := SeqIn.mono (hr.out.seq (by simp; omega)) (fun x hx => Nat.le_trans hs1 hx) fun _ _ x => x
                obtain ⟨p8, q8, e8⟩ := seq_shape (SeqIn.at_ HROW.out)
                subst e8
                rw [List.length_map, List.length_range] at *
                go_wp2_with (at_builtin; refine wp_app1 elRows rfl _ _ rfl wz.heap.size u6 us rfl (HO.out.alloc _) _ (.slice p8 j q8) rfl ?c1 rfl ?c2 ?c3 ?_)
                case c1 => simp [go_sem]
                case c2 => have := HL3.out; omega
                case c3 => simp; omega
                intro v' w2 hown hchg
                have ca : Chg (fun x => wo.heap.size ≤ x) wo (wi.alloc (.cells #[.slice p8 j q8] 33)) := hk1.out.chg.alloc _
                have hpush := OwnRows.push (m := matOf k j (prodAt a b)) HL2.out H3.out ca (fun x hx _ _ h => by omega) hown hchg
                  (fun x hx => by
                    obtain ⟨_, h5, h6⟩ := own_block HO.out x hx
                    exact typH_chg (T := fun _ => False) ((Chg.refl _ wi).alloc _) h6 (fun x => x))
                  (SeqIn.chg HROW.out (T := fun _ => False) ((Chg.refl _ _).alloc _) (fun _ _ _ _ x => x) fun _ _ _ x => x)
                have hk2 : Hid (Keeps wz w2) := ((hK.out.chg.trans (ca.mono fun x _ hx => Nat.le_trans hs1 hx)).trans (hchg.mono fun x _ hx => (own_block HU.out x hx).1)).keeps fun x hx h => by omega
                have HP := Lib.hid hpush
                clear hown hchg hpush
                go_wp2
                exact ⟨⟨k + 1, by omega, rfl, by have := HP.out; unfold matOf at this ⊢; rw [List.range_succ, List.map_append]; exact this, hk2⟩, by simp [intOf]; omega⟩
          · obtain rfl : k = a.length := by omega
            go_wp2
            go_ret2
            rw [e.out]
            exact ⟨_, rfl, MatIn.mono (hR.out.mat (by simp [matOf]; omega)) fun b hb => Nat.le_trans HKz.out.size hb, HKz.out.call hK.out (Nat.le_refl _)⟩
      · have e : Hid (mulM a b = ([], 4)) := by show _ = _; unfold mulM; rw [MA.out, MB.out, ← HNA.out, decide_eq_false hl]; rfl
        have hne : ((na : Int) != (b.length : Int)) = true := by rw [bne_iff_ne]; omega
        clear hl
        go_enter Try.func24, Try.ntmps24
        go_wp2_with (first | (go_at_call 31; (with_reducible refine Calls.mono (refmay_yes _ a _ ?_ MA.out) ?_); exact HA.out; rintro e w' ⟨rfl, n1, rfl⟩) | (go_at_call 31; (with_reducible refine Calls.mono (refmay_yes _ b _ ?_ MB.out) ?_); exact HB.out; rintro e w' ⟨rfl, n2, rfl⟩))
        go_ret2
        rw [e.out]
        exact GiveMat.err (keeps_refl _)
end Go.Proofs.Ytojdodbedemkoaa
