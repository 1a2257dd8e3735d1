/- The walk of strongboxref03.Vec. -/
import Derived.Test.YtojdodbedemkoaaRefMul
namespace Go.Proofs.Ytojdodbedemkoaa
open Go.RowKit

set_option maxRecDepth 100000 in
set_option maxHeartbeats 4000000 in
theorem refvec_any (va vb : Value) (a : List (List UInt8)) (v : List UInt8) (w : World) (ha : MatAt w.heap va a) (hb : RowAt w.heap vb v) :
    Calls Try.prog 25 #[va, vb] w (GiveRow w (vecM a v)) := by
  obtain ⟨pa, qa, rfl⟩ := seq_shape ha
  obtain ⟨pb, qb, rfl⟩ := seq_shape hb
  have HA := Lib.hid ha
  have HB := Lib.hid hb
  cases ma : mayB 12 a with
  | false =>
    have e : Hid (vecM a v = ([], 4)) := by show _ = _; unfold vecM; rw [ma]; rfl
    have MA := Lib.hid ma
    clear ha hb ma
    go_enter Try.func25, Try.ntmps25
    go_wp2_with (first | (go_at_call 31; refine Calls.mono (refmay_no _ a _ ?_ MA.out) ?_; exact HA.out; rintro e w' ⟨rfl, n, rfl⟩))
    go_ret2
    rw [e.out]
    exact GiveRow.err (keeps_refl _)
  | true =>
    obtain ⟨a1, a2, a3, a4, a5⟩ := mayB_iff.1 ma
    obtain ⟨b1, o1, p1, q1, rfl, d1⟩ := row0' ha a1
    have MA := Lib.hid ma
    clear ha hb ma
    have i3 : 0 < a.length := by omega
    obtain ⟨na, hna⟩ : ∃ na, na = (a.headD []).length := ⟨_, rfl⟩
    rw [← hna] at a3 a4 d1
    clear a5
    have HNA := Lib.hid hna
    clear hna
    by_cases hl : na = v.length
    · have e : Hid (vecM a v = ((List.range a.length).map (vecAt a v), 0)) := by show _ = _; unfold vecM; rw [MA.out, ← HNA.out, decide_eq_true hl]; rfl
      have hne : ((na : Int) != (v.length : Int)) = false := by rw [bne_eq_false_iff_eq, hl]
      have HL := Lib.hid hl
      clear hl
      go_enter Try.func25, Try.ntmps25
      go_wp2_with (first | (go_at_call 31; (with_reducible refine Calls.mono (refmay_yes _ a _ ?_ MA.out) ?_); exact HA.out; rintro e w' ⟨rfl, n1, rfl⟩))
      have HAz : Hid (MatAt (w.drewN n1).heap (.slice (some ⟨b1, o1, none⟩) a.length qa) a) := HA
      have HBz : Hid (RowAt (w.drewN n1).heap (.slice pb v.length qb) v) := HB
      have HKz : Hid (Keeps w (w.drewN n1)) := keeps_refl w
      generalize w.drewN n1 = wz at *
      go_loopw [6, 7] (fun u i wr => ∃ k : Nat, k ≤ a.length ∧ i = .int .i64 k ∧ Hid (OwnSeq wz.heap.size 5 IsByte wr u ((List.range k).map (vecAt a v))) ∧ Hid (Keeps wz wr)) (fun _ i _ => a.length - (intOf i).toNat)
      case atStart => exact ⟨0, by omega, rfl, OwnSeq.nil _ _ _ _, keeps_refl wz⟩
      case round =>
        obtain ⟨k, hk, rfl, hr, hk1⟩ := hrel
        obtain ⟨wi, rfl⟩ : ∃ wi : World, wi = wr := ⟨_, rfl⟩
        by_cases hlt : k < a.length
        · have hlt64 : (k : Int) < (a.length : Int) := by omega
          have HAi := Lib.hid (HAz.out.keeps hk1.out)
          have HBi := Lib.hid (SeqAt.keeps HBz.out hk1.out)
          go_wp2_with fail
          go_loopw [8, 9] (fun x t wt => ∃ tt : Nat, tt ≤ v.length ∧ t = .int .i64 tt ∧ x = .int .u8 ((LA.sum tt fun q => LA.mul (LA.at_ a k q) (v.getD q 0)).toNat : Int) ∧ ∃ n, wt = wi.drewN n) (fun _ t _ => v.length - (intOf t).toNat)
          case atStart => exact ⟨0, by omega, rfl, rfl, 0, rfl⟩
          case round =>
            obtain ⟨t, ht, rfl, rfl, n0, rfl⟩ := hrel
            by_cases htl : t < v.length
            · have ht64 : (t : Int) < (v.length : Int) := by omega
              obtain ⟨c1, c2, c3, c4, c5, c6, e1, f1, f2⟩ := mat_cell (j := t) HAi.out hlt (by rw [may_row MA.out hlt, ← HNA.out, HL.out]; exact htl)
              obtain ⟨g1, g2, g3, e2, f3⟩ := row_cell HBi.out htl
              rw [may_row MA.out hlt, ← HNA.out] at f1
              injection e1 with e3 e4 e5
              injection e3 with e3
              injection e3 with e6 e7
              subst e6 e7
              injection e2 with e8 e9 e10
              subst e8
              have hx := gxor (LA.sum t fun q => LA.mul (LA.at_ a k q) (v.getD q 0)) (LA.mul (LA.at_ a k t) (v.getD t 0))
              have hs : Hid (LA.sum (t + 1) (fun q => LA.mul (LA.at_ a k q) (v.getD q 0)) = LA.sum t (fun q => LA.mul (LA.at_ a k q) (v.getD q 0)) ^^^ LA.mul (LA.at_ a k t) (v.getD t 0)) := rfl
              have hlna : (t : Int) < (na : Int) := by have := HL.out; omega
              generalize LA.sum t (fun q => LA.mul (LA.at_ a k q) (v.getD q 0)) = s at *
              generalize LA.at_ a k t = x at *
              generalize v.getD t 0 = y at *
              clear e4 e5 e9 e10
              go_wp2_with fail
              go_quiet (first | (go_at_call 59; refine Calls.mono (grefmul _ _ _) ?_; rintro e w' ⟨rfl, rfl⟩; exact ⟨rfl, _, rfl⟩))
              go_wp2
              exact ⟨⟨t + 1, by omega, rfl, by rw [hs.out]; rfl, _, rfl⟩, by simp [intOf]; omega⟩
            · obtain rfl : t = v.length := by omega
              obtain ⟨us, hu1, hu2, hu3⟩ := hr.out
              have hul : us.length = k := by rw [hu2]; simp
              have HU := Lib.hid hu1
              have HL2 := Lib.hid hu2
              have HL3 := Lib.hid hul
              have H3 := Lib.hid hu3
              have hsz := hk1.out.size
              have hpe : Hid (LA.sum v.length (fun q => LA.mul (LA.at_ a k q) (v.getD q 0)) = vecAt a v k) := rfl
              rw [hpe.out]
              clear hu1 hu2 hul hu3
              have HUn : Hid ((wi.drewN n0).ownsRow wz.heap.size 5 1 u6 us.length us) := HU.out
              go_wp2_with (at_builtin; refine wp_app1 elRow rfl _ _ rfl wz.heap.size u6 us rfl (HUn.out.alloc _) _ (.int .u8 ((vecAt a v k).toNat : Int)) rfl ?c1 rfl ?c2 ?c3 ?_)
              case c1 => exact World.cell?_alloc_new _ _ _ _
              case c2 => have := HL3.out; omega
              case c3 => simp; omega
              intro v' w2 hown hchg
              have hpush : OwnSeq wz.heap.size 5 IsByte w2 v' (((List.range k).map (vecAt a v)) ++ [vecAt a v k]) := OwnSeq.push (R := IsByte) HL2.out H3.out hown (fun _ _ _ x => x) rfl
              have hk2 : Hid (Keeps wz w2) := ((hk1.out.chg.trans ((Chg.refl (fun x => wz.heap.size ≤ x) (wi.drewN n0)).alloc _)).trans (hchg.mono fun x _ hx => (own_block HU.out x hx).1)).keeps fun x hx h => by omega
              have HP := Lib.hid hpush
              clear hown hchg hpush
              go_wp2
              exact ⟨⟨k + 1, by omega, rfl, by have := HP.out; rw [List.range_succ, List.map_append]; exact this, hk2⟩, by simp [intOf]; omega⟩
        · obtain rfl : k = a.length := by omega
          go_wp2
          go_ret2
          rw [e.out]
          exact ⟨_, rfl, SeqIn.mono (hr.out.seq (by simp; omega)) (fun b hb => Nat.le_trans HKz.out.size hb) fun _ _ x => x, HKz.out.call hk1.out (Nat.le_refl _)⟩
    · have e : Hid (vecM a v = ([], 4)) := by show _ = _; unfold vecM; rw [MA.out, ← HNA.out, decide_eq_false hl]; rfl
      have hne : ((na : Int) != (v.length : Int)) = true := by rw [bne_iff_ne]; omega
      clear hl
      go_enter Try.func25, Try.ntmps25
      go_wp2_with (first | (go_at_call 31; (with_reducible refine Calls.mono (refmay_yes _ a _ ?_ MA.out) ?_); exact HA.out; rintro e w' ⟨rfl, n1, rfl⟩))
      go_ret2
      rw [e.out]
      exact GiveRow.err (keeps_refl _)
end Go.Proofs.Ytojdodbedemkoaa
