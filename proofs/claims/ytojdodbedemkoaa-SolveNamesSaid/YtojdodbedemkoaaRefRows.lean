/- The walk of strongboxref03.Rows. -/
import Derived.Test.YtojdodbedemkoaaRefMul
import Derived.Test.YtojdodbedemkoaaMatRows
import Derived.Test.YtojdodbedemkoaaStep
namespace Go.Proofs.Ytojdodbedemkoaa
open Go.RowKit

set_option maxRecDepth 100000 in
set_option maxHeartbeats 4000000 in
theorem refrows_any (va vl : Value) (m : List (List UInt8)) (l : List Int) (w : World) (ha : MatAt w.heap va m) (hl : SeqAt IsInt w.heap vl l) :
    Calls Try.prog 26 #[va, vl] w (GiveMat w (rowsM m l)) := by
  obtain ⟨pa, qa, rfl⟩ := seq_shape ha
  obtain ⟨pl, ql, rfl⟩ := seq_shape hl
  cases ma : mayB 12 m with
  | false =>
    have e : Hid (rowsM m l = ([], 4)) := by show _ = _; unfold rowsM; rw [ma]; rfl
    have MA := Lib.hid ma
    have HA := Lib.hid ha
    clear ha hl ma
    go_enter Try.func26, Try.ntmps26
    go_wp2_with (first | (go_at_call 31; refine Calls.mono (refmay_no _ m _ ?_ MA.out) ?_; exact HA.out; rintro e w' ⟨rfl, n, rfl⟩))
    go_ret2
    rw [e.out]
    exact GiveMat.err (keeps_refl _)
  | true =>
    obtain ⟨a1, a2, a3, a4, _⟩ := mayB_iff.1 ma
    have MA := Lib.hid ma
    have HA := Lib.hid ha
    have HL := Lib.hid hl
    clear ha hl ma
    by_cases h1 : 1 ≤ l.length
    · by_cases h2 : l.length ≤ 12
      · have e : Hid (rowsM m l = if l.all (okAt m) then (pick m l, 0) else ([], 1)) := by show _ = _; unfold rowsM; rw [MA.out, decide_eq_true ⟨h1, h2⟩]; rfl
        go_enter Try.func26, Try.ntmps26
        go_wp2_with (first | (go_at_call 31; (with_reducible refine Calls.mono (refmay_yes _ m _ ?_ MA.out) ?_); exact HA.out; rintro e w' ⟨rfl, n0, rfl⟩))
        have HAz : Hid (MatAt (w.drewN n0).heap (.slice pa m.length qa) m) := HA
        have HLz : Hid (SeqAt IsInt (w.drewN n0).heap (.slice pl l.length ql) l) := HL
        have HKz : Hid (Keeps w (w.drewN n0)) := keeps_refl w
        generalize w.drewN n0 = w1 at *
        go_loopw [6, 7] (fun v i wr => ∃ k : Nat, k ≤ l.length ∧ i = .int .i64 k ∧ Hid (OwnRows w1.heap.size wr v (pick m (l.take k))) ∧ Hid (Keeps w1 wr) ∧ Hid (∀ j (h : j < l.length), j < k → okAt m l[j] = true)) (fun _ i _ => l.length - (intOf i).toNat)
        case atStart => exact ⟨0, by omega, rfl, OwnSeq.nil _ _ _ _, keeps_refl w1, fun j _ h => by omega⟩
        case round =>
          obtain ⟨k, hk, rfl, hR, hK, hok⟩ := hrel
          by_cases hlt : k < l.length
          · obtain ⟨pl', ql', e0, _, hel⟩ := SeqAt.keeps HLz.out hK.out
            injection e0 with e2 e3 e4
            subst e2 e4
            obtain ⟨bl, ol, u, rfl, cl, r1⟩ := hel k hlt
            rw [← cell_of, r1] at cl
            have hlt64 : (k : Int) < (l.length : Int) := by omega
            have hge0 : (0 : Int) ≤ (k : Int) := by omega
            clear hel
            have HX := Lib.hid (pick_snoc m l hlt)
            cases hx : okAt m l[k] with
            | true =>
              have HO' : Hid (∀ j (h : j < l.length), j < k + 1 → okAt m l[j] = true) := fun j h hj => by
                by_cases e : j = k
                · subst e; exact hx
                · exact hok.out j h (by omega)
              unfold okAt at hx
              obtain ⟨x1, x2⟩ := of_decide_eq_true hx
              clear hx
              obtain ⟨I, hI⟩ := Int.eq_ofNat_of_zero_le x1
              rw [hI] at x2 cl
              have HX : Hid (pick m (l.take (k + 1)) = pick m (l.take k) ++ [m.getD I []]) := by have := HX.out; rw [hI] at this; exact this
              clear hI x1
              have hi : I < m.length := by omega
              have x1 : (0 : Int) ≤ (I : Int) := by omega
              have x3 : decide ((I : Int) < 0) = false := decide_eq_false (by omega)
              have x4 : decide ((m.length : Int) ≤ (I : Int)) = false := decide_eq_false (by omega)
              have x5 : decide (m.length ≤ I) = false := decide_eq_false (by omega)
              obtain ⟨b1, o1, c1, u1, e5, d1, r1⟩ := mat_row (HAz.out.keeps hK.out) hi
              injection e5 with e6 e7 e8
              subst e6 e8
              have hrl := may_row MA.out hi
              obtain ⟨na, hna⟩ : ∃ na, na = (m.headD []).length := ⟨_, rfl⟩
              rw [← hna] at a3 a4 hrl
              obtain ⟨q0, o0, c0, e9, _⟩ := row_cell (j := 0) r1 (by omega)
              subst e9
              rw [hrl] at d1 r1
              obtain ⟨us, hu1, hu2, hu3⟩ := hR.out
              have hul : us.length = k := by rw [hu2]; simp [pick]; omega
              have HU := Lib.hid hu1
              have HL5 := Lib.hid hu2
              have HL6 := Lib.hid hul
              have H3 := Lib.hid hu3
              have R1 := Lib.hid r1
              have RL := Lib.hid hrl
              clear hu1 hu2 hul hu3 r1 hrl hna
              generalize m.getD I [] = r at *
              have hb1 := cell_lt d1
              have hb2 := cell_lt cl
              have hsz := hK.out.size
              have hk5 : Keeps wr (wr.alloc (.cells #[] 5)) := (Kept.refl _ _).alloc (Nat.le_refl _) _
              have R5 : Hid (RowAt (wr.alloc (.cells #[] 5)).heap (.slice (some ⟨q0, o0, none⟩) na c0) r) := SeqAt.keeps R1.out hk5
              clear hk5
              go_wp2_with (at_builtin; refine wp_apps elRow rfl _ _ rfl wr.heap.size _ [] rfl (own_empty _ _ _ (Nat.le_refl _)) q0 o0 na c0 (bytesV r) rfl (by rw [bytesV_length]; exact RL.out) (bytesV_at R5.out) (bytesV_one r) ?c1 ?c2 ?_)
              case c1 => have := RL.out; rw [bytesV_length]; omega
              intro v6 w6 hown6 hchg6
              have hc6 : Hid (Chg (fun x => x = wr.heap.size) wr w6) := ((Chg.refl _ wr).alloc _).trans (hchg6.mono fun x _ h => by simp only [Value.ownBlock, Option.some.injEq] at h; exact h.symm)
              have hr6 : Hid (RowIn (wr.heap.size ≤ ·) w6.heap v6 r) := (bytesV_seq (by simpa using hown6)).seq (by have := RL.out; omega)
              have HO : Hid (w6.ownsRow w1.heap.size 33 1 u6 us.length us) := owns_chg HU.out hc6.out fun b hb e => by have := (own_block HU.out b hb).2.1; omega
              have HROW : Hid (RowIn (w1.heap.size ≤ ·) w6.heap v6 r) := SeqIn.mono hr6.out (fun b hb => Nat.le_trans hsz hb) fun _ _ x => x
              have hs6 := hc6.out.size
              obtain ⟨p6, q6, rfl⟩ := seq_shape hr6.out.at_
              clear hown6 hchg6
              go_wp2_with (at_builtin; refine wp_app1 elRows rfl _ _ rfl w1.heap.size u6 us rfl (HO.out.alloc _) _ (.slice p6 r.length q6) rfl ?d1 rfl ?d2 ?d3 ?_)
              case d1 => simp [go_sem]
              case d2 => have := HL6.out; omega
              case d3 => simp; omega
              intro v' w2 hown hchg
              have ca : Chg (fun x => x = wr.heap.size) wr (w6.alloc (.cells #[.slice p6 r.length q6] 33)) := hc6.out.alloc _
              have hpush := OwnRows.push (m := pick m (l.take k)) HL5.out H3.out ca (fun b hb _ _ e => by omega) hown hchg
                (fun b hb => by
                  obtain ⟨_, h5, h6⟩ := own_block HO.out b hb
                  exact typH_chg (T := fun _ => False) ((Chg.refl _ w6).alloc _) h6 (fun x => x))
                (SeqIn.chg HROW.out (T := fun _ => False) ((Chg.refl _ _).alloc _) (fun _ _ _ _ x => x) fun _ _ _ x => x)
              have hk2 : Hid (Keeps w1 w2) := ((hK.out.chg.trans (ca.mono fun b hb e => by omega)).trans (hchg.mono fun b hb0 hb => by
                exact (own_block HU.out b hb).1)).keeps fun b hb hx => by omega
              have HP := Lib.hid hpush
              clear hown hchg hpush
              go_wp2
              exact ⟨⟨k + 1, by omega, rfl, by rw [HX.out]; exact HP.out, hk2, HO'⟩, by simp [intOf]; omega⟩
            | false =>
              have HO : Hid (l.all (okAt m) = false) := by
                refine List.all_eq_false.2 ⟨l[k], List.getElem_mem hlt, by rw [hx]; simp⟩
              unfold okAt at hx
              have hx := of_decide_eq_false hx
              by_cases x1 : 0 ≤ l[k]
              · have x2 : ¬ l[k] < (m.length : Int) := fun h => hx ⟨x1, h⟩
                clear hx
                generalize l[k] = x at *
                have x3 : decide (x < 0) = false := decide_eq_false (by omega)
                have x4 : decide ((m.length : Int) ≤ x) = true := decide_eq_true (by omega)
                go_wp2
                go_ret2
                rw [e.out, HO.out]
                exact GiveMat.err (HKz.out.call hK.out (Nat.le_refl _))
              · clear hx
                generalize l[k] = x at *
                have x3 : decide (x < 0) = true := decide_eq_true (by omega)
                go_wp2
                go_ret2
                rw [e.out, HO.out]
                exact GiveMat.err (HKz.out.call hK.out (Nat.le_refl _))
          · obtain rfl : k = l.length := by omega
            have HO : Hid (l.all (okAt m) = true) := List.all_eq_true.2 fun x hx => by
              obtain ⟨j, hj, rfl⟩ := List.getElem_of_mem hx
              exact hok.out j hj hj
            have HR : Hid (OwnRows w1.heap.size wr u6 (pick m l)) := by have := hR.out; rw [List.take_length] at this; exact this
            clear hR
            go_wp2
            go_ret2
            rw [e.out, HO.out]
            exact ⟨_, rfl, MatIn.mono (HR.out.mat (by simp [pick]; omega)) fun b hb => Nat.le_trans HKz.out.size hb, HKz.out.call hK.out (Nat.le_refl _)⟩
      · have e : Hid (rowsM m l = ([], 1)) := by show _ = _; unfold rowsM; rw [MA.out, decide_eq_false (by omega)]; rfl
        go_enter Try.func26, Try.ntmps26
        go_wp2_with (first | (go_at_call 31; (with_reducible refine Calls.mono (refmay_yes _ m _ ?_ MA.out) ?_); exact HA.out; rintro e w' ⟨rfl, n0, rfl⟩))
        go_ret2
        rw [e.out]
        exact GiveMat.err (keeps_refl _)
    · have e : Hid (rowsM m l = ([], 1)) := by show _ = _; unfold rowsM; rw [MA.out, decide_eq_false (by omega)]; rfl
      go_enter Try.func26, Try.ntmps26
      go_wp2_with (first | (go_at_call 31; (with_reducible refine Calls.mono (refmay_yes _ m _ ?_ MA.out) ?_); exact HA.out; rintro e w' ⟨rfl, n0, rfl⟩))
      go_ret2
      rw [e.out]
      exact GiveMat.err (keeps_refl _)
end Go.Proofs.Ytojdodbedemkoaa
