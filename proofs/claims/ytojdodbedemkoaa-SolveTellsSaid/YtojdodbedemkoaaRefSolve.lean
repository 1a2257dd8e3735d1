/- The walks of strongboxref04.Down and Rank. -/
import Derived.Test.YtojdodbedemkoaaRefDown
import Derived.Test.YtojdodbedemkoaaLawSame
import Derived.Test.YtojdodbedemkoaaSolLaw
import Derived.Test.YtojdodbedemkoaaRefVec
namespace Go.Proofs.Ytojdodbedemkoaa
open Go.RowKit
set_option maxRecDepth 100000 in
set_option maxHeartbeats 1000000 in
theorem refrank_any (va : Value) (m : List (List UInt8)) (w : World) (ha : MatAt w.heap va m) : Calls Try.prog 50 #[va] w (GiveInt w (rankM m)) := by
  have HA := Lib.hid ha
  clear ha
  cases hm : mayB 255 m with
  | false =>
    have e : Hid (rankM m = (0, 4)) := by show _ = _; unfold rankM; rw [hm]; rfl
    have MA := Lib.hid hm
    clear hm
    go_enter Try.func50, Try.ntmps50
    go_wp2_with fail
    refine Calls.mono (refmay04_is _ m _ HA.out _ MA.out) ?_
    rintro e w1 ⟨rfl, hk⟩
    go_wp2
    go_ret2
    exact ⟨by rw [e.out]; rfl, hk⟩
  | true =>
    have e : Hid (rankM m = (((LA.dn m (colsN m)).2 : Int), 0)) := by show _ = _; unfold rankM; rw [hm]; rfl
    obtain ⟨a1, a2, a3, a4, hR⟩ := may_cols hm
    have HR := Lib.hid hR
    clear hR
    have MA := Lib.hid hm
    clear hm
    go_enter Try.func50, Try.ntmps50
    go_wp2_with fail
    refine Calls.mono (refmay04_is _ m _ HA.out _ MA.out) ?_
    rintro e w1 ⟨rfl, hk⟩
    have HA := Lib.hid (HA.out.keeps hk)
    have HK := Lib.hid hk
    clear hk
    go_wp2_with fail
    refine Calls.mono (refdown_any _ m (colsN m) _ HA.out HR.out a1 a2 a3 (by omega)) ?_
    rintro e w2 ⟨g, cap, ρ, κ, rfl, hl, hk⟩
    have HK2 : Hid (Keeps w w2) := HK.out.call hk (Nat.le_refl _)
    clear hl hk
    go_wp2
    go_ret2
    exact ⟨by rw [e.out]; rfl, HK2.out⟩
set_option maxRecDepth 100000 in
set_option maxHeartbeats 1000000 in
theorem refsdown_any (va : Value) (m : List (List UInt8)) (w : World) (ha : MatAt w.heap va m) : Calls Try.prog 49 #[va] w (GiveMat w (downM m)) := by
  have HA := Lib.hid ha
  clear ha
  cases hm : mayB 255 m with
  | false =>
    have e : Hid (downM m = ([], 4)) := by show _ = _; unfold downM; rw [hm]; rfl
    have MA := Lib.hid hm
    clear hm
    go_enter Try.func49, Try.ntmps49
    go_wp2_with fail
    refine Calls.mono (refmay04_is _ m _ HA.out _ MA.out) ?_
    rintro e w1 ⟨rfl, hk⟩
    go_wp2
    go_ret2
    rw [e.out]
    exact GiveMat.err hk
  | true =>
    have e : Hid (downM m = ((LA.dn m (colsN m)).1, 0)) := by show _ = _; unfold downM; rw [hm]; rfl
    obtain ⟨a1, a2, a3, a4, hR⟩ := may_cols hm
    have HR := Lib.hid hR
    clear hR
    have MA := Lib.hid hm
    clear hm
    go_enter Try.func49, Try.ntmps49
    go_wp2_with fail
    refine Calls.mono (refmay04_is _ m _ HA.out _ MA.out) ?_
    rintro e w1 ⟨rfl, hk⟩
    have HA := Lib.hid (HA.out.keeps hk)
    have HK := Lib.hid hk
    have hsz := hk.size
    clear hk
    go_wp2_with fail
    refine Calls.mono (refdown_any _ m (colsN m) _ HA.out HR.out a1 a2 a3 (by omega)) ?_
    rintro e w2 ⟨g, cap, ρ, κ, rfl, hl, hk⟩
    have HK2 : Hid (Keeps w w2) := HK.out.call hk (Nat.le_refl _)
    have hD := dn_rect HR.out (colsN m)
    have hLn := dn_len m (colsN m)
    have HM : Hid (MatIn (w.heap.size ≤ ·) w2.heap (.slice (some ⟨g, 0, none⟩) m.length cap) (LA.dn m (colsN m)).1) := by
      have h1 : Lies w1.heap.size w2.heap g cap (LA.dn m (colsN m)).1.length (colsN m) (LA.at_ (LA.dn m (colsN m)).1) ρ κ := by rw [hLn]; exact hl
      have := h1.mat hD (fun _ _ _ _ => rfl) (by omega) (by omega)
      rw [hLn] at this
      exact MatIn.mono this fun b hb => Nat.le_trans hsz hb
    clear hl hk
    go_wp2
    go_ret2
    rw [e.out]
    exact ⟨_, rfl, HM.out, HK2.out⟩
end Go.Proofs.Ytojdodbedemkoaa
/- The walk of strongboxref04.Turn. -/
namespace Go.Proofs.Ytojdodbedemkoaa
open Go.RowKit
/-- Row k of the wide matrix, out of the zeros behind row k. -/
theorem wide_one {m : LA.Mat} (hr : LA.Rect m m.length) {k j : Nat} (hk : k < m.length) (hj : j < m.length + m.length) : (if j = m.length + k then (1 : UInt8) else LA.at_ m k j) = LA.at_ (wideM m) k j := by
  rw [← wideF_all hr hk hj]
  unfold wideF
  by_cases e : j = m.length + k
  · rw [if_pos e, if_pos ⟨hk, e⟩]
  · rw [if_neg e, if_neg (fun h => e h.2)]
/-- The tail of a row in a block of its own. -/
theorem RowF.tail {h : Array Obj} {r n o : Nat} {M : LA.Mat} {k κ : Nat} (l : RowF h r n (LA.at_ M k)) (hM : LA.Rect M n) (hk : k < M.length) (hn : n ≤ 4096) : RowAt h (.slice (some ⟨r, o, none⟩) (n - o) κ) ((M.getD k []).drop o) := by
  have hlen : (M.getD k []).length = n := LA.rect_row hM hk
  have hld : ((M.getD k []).drop o).length = n - o := by rw [List.length_drop, hlen]
  refine ⟨_, _, by rw [hld], by omega, fun j hj => ⟨r, o, _, rfl, (l.2 (o + j) (by omega)).2, ?_⟩⟩
  show Value.int .u8 (((M.getD k []).getD (o + j) 0).toNat : Int) = _
  generalize M.getD k [] = r at *
  rw [List.getD_eq_getElem?_getD, List.getElem?_eq_getElem (by omega)]
  simp [List.getElem_drop]

set_option maxRecDepth 100000 in
set_option maxHeartbeats 16000000 in
theorem refturn_any (va : Value) (m : List (List UInt8)) (w : World) (ha : MatAt w.heap va m) : Calls Try.prog 47 #[va] w (GiveMat w (turnM m)) := by
  obtain ⟨pa, qa, rfl⟩ := seq_shape ha
  have HA := Lib.hid ha
  clear ha
  cases hm : mayB 255 m with
  | false =>
    have e : Hid (turnM m = ([], 4)) := by show _ = _; unfold turnM; rw [hm]; rfl
    have MA := Lib.hid hm
    clear hm
    go_enter Try.func47, Try.ntmps47
    go_wp2_with fail
    refine Calls.mono (refmay04_is _ m _ HA.out _ MA.out) ?_
    rintro e w1 ⟨rfl, hk⟩
    go_wp2
    go_ret2
    rw [e.out]
    exact GiveMat.err hk
  | true =>
    obtain ⟨a1, a2, a3, a4, hR⟩ := may_cols hm
    obtain ⟨b1, o1, ea⟩ := mat_addr HA.out a1
    subst ea
    have MA := Lib.hid hm
    have i1 : (0 : Int) < (m.length : Int) := by omega
    by_cases hsq : m.length = colsN m
    · have hne : ((m.length : Int) != (colsN m : Int)) = false := by rw [bne_eq_false_iff_eq, hsq]
      have HSQ := Lib.hid hsq
      have HRS : Hid (LA.Rect m m.length) := by rw [← hsq] at hR; exact hR
      have HR := Lib.hid hR
      clear hR hm hsq
      go_enter Try.func47, Try.ntmps47
      go_wp2_with fail
      refine Calls.mono (refmay04_is _ m _ HA.out _ MA.out) ?_
      rintro e w1 ⟨rfl, hk⟩
      have HA := Lib.hid (HA.out.keeps hk)
      have HK := Lib.hid hk
      obtain ⟨p0, q0, d0⟩ := row0y HA.out a1
      change w1.cell? _ = some (.slice p0 (colsN m) q0) at d0
      clear hk
      have HRK : Hid (rankM m = (((LA.dn m (colsN m)).2 : Int), 0)) := by show _ = _; unfold rankM; rw [MA.out]; rfl
      go_wp2_with fail
      refine Calls.mono (gaveI (refrank_any _ m _ HA.out) HRK.out) ?_
      rintro e w2 ⟨rfl, hk⟩
      have HA := Lib.hid (HA.out.keeps hk)
      have HK := Lib.hid (HK.out.call hk (Nat.le_refl _))
      clear hk d0
      by_cases hrk : (LA.dn m (colsN m)).2 < m.length
      · have e : Hid (turnM m = ([], 5)) := by show _ = _; unfold turnM; rw [MA.out, decide_eq_true HSQ.out, if_pos hrk]; rfl
        have hq : decide ((((LA.dn m (colsN m)).2 : Nat) : Int) < (m.length : Int)) = true := decide_eq_true (by omega)
        have hq2 : decide ((LA.dn m (colsN m)).2 < m.length) = true := decide_eq_true hrk
        go_wp2_with fail
        go_ret2
        rw [e.out]
        exact GiveMat.err HK.out
      · have e : Hid (turnM m = (turnOf m, 0)) := by show _ = _; unfold turnM; rw [MA.out, decide_eq_true HSQ.out, if_neg hrk]; rfl
        have hq : decide ((((LA.dn m (colsN m)).2 : Nat) : Int) < (m.length : Int)) = false := decide_eq_false (by omega)
        have hq2 : decide ((LA.dn m (colsN m)).2 < m.length) = false := decide_eq_false hrk
        clear hrk
        obtain ⟨n, hn⟩ : ∃ n, n = m.length := ⟨_, rfl⟩
        obtain ⟨N2, hN2⟩ : ∃ N2, N2 = m.length + m.length := ⟨_, rfl⟩
        have HN2 := Lib.hid hN2
        have hn2 : N2 ≤ 510 := by omega
        clear hN2 hn
        go_wp2_with fail
        go_loopw [6, 7] (fun v i wr => ∃ k : Nat, k ≤ m.length ∧ i = .int .i64 k ∧ Hid (∃ ρ κ, Grows w2.heap.size wr v k N2 (LA.at_ (wideM m)) ρ κ) ∧ Hid (Keeps w2 wr)) (fun _ i _ => m.length - (intOf i).toNat)
        case atStart => exact ⟨0, by omega, rfl, ⟨_, _, Grows.nil _ _ _ _⟩, keeps_refl _⟩
        case round =>
          obtain ⟨k, hk, rfl, hR, hK⟩ := hrel
          by_cases hlt : k < m.length
          · have hlt64 : (k : Int) < (m.length : Int) := by omega
            have hge0 : (0 : Int) ≤ (k : Int) := by omega
            obtain ⟨b2, o2, c2, u2, e5, d1, r1⟩ := mat_row (HA.out.keeps hK.out) hlt
            injection e5 with e6 e7 e8
            simp only [Option.some.injEq, Addr.mk.injEq] at e6
            obtain ⟨rfl, rfl, _⟩ := e6
            subst e8
            clear e7
            have hrl : (m.getD k []).length = m.length := LA.rect_row HRS.out hlt
            obtain ⟨q0, o0, c0, e9, _⟩ := row_cell (j := 0) r1 (by omega)
            subst e9
            rw [hrl] at d1 r1
            have HL0 : Hid ((m.getD k []).length = m.length) := hrl
            have HW : Hid (∀ us j, us = bytesV (m.getD k []) ++ List.replicate m.length (.int .u8 0) → j < N2 → us[j]? = some (.int .u8 ((LA.at_ m k j).toNat : Int))) := fun us j hu hj => wide_row hrl hu j (by have := HN2.out; omega)
            have HWO : Hid (∀ j, j < N2 → (if j = m.length + k then (1 : UInt8) else LA.at_ m k j) = LA.at_ (wideM m) k j) := fun j hj => wide_one HRS.out hlt (by have := HN2.out; omega)
            have hsz := hK.out.size
            have hb1 := cell_lt d1
            have R5 : Hid (RowAt (wr.alloc (.cells #[] 5)).heap (.slice (some ⟨q0, o0, none⟩) m.length c0) (m.getD k [])) := SeqAt.keeps r1 ((Kept.refl _ _).alloc (Nat.le_refl _) _)
            clear r1 hrl
            generalize m.getD k [] = r at *
            go_wp2_with (at_builtin; refine wp_apps elRow rfl _ _ rfl wr.heap.size _ [] rfl (own_empty _ _ _ (Nat.le_refl _)) q0 o0 m.length c0 (bytesV r) rfl (by rw [bytesV_length]; exact HL0.out) (bytesV_at R5.out) (bytesV_one r) ?c1 ?c2 ?_)
            case c1 => have := HL0.out; simp only [List.length_nil, bytesV_length]; omega
            case c2 => simp
            intro v6 w6 hown6 hchg6
            have hT : Hid (Chg (fun x => wr.heap.size ≤ x) wr w6) := (((Chg.refl _ wr).alloc _).trans (hchg6.mono fun x _ h => by simp only [Value.ownBlock, Option.some.injEq] at h; omega))
            have hown7 : w6.ownsRow wr.heap.size 5 1 v6 (bytesV r).length (bytesV r) := by simpa using hown6
            have hbl : (bytesV r).length = m.length := by rw [bytesV_length]; exact HL0.out
            obtain ⟨v7, w7, hrun, ho7, hc7⟩ := run_appz (P := Try.prog) elRow rfl rfl Try.underlying3 33 wr.heap.size v6 (bytesV r) hown7 (by omega) m.length (by omega) hT.out.size
            rw [hbl] at hown7 ho7
            obtain ⟨g1, cap1, rfl, _, _⟩ := hown7.form (by omega)
            have ho7 : w7.ownsRow wr.heap.size 5 1 v7 N2 (bytesV r ++ List.replicate m.length (.int .u8 0)) := by rw [HN2.out]; exact ho7
            obtain ⟨g2, cap2, rfl, hg2, hl2⟩ := ho7.form (by have := HN2.out; omega)
            have HCAP2 : Hid (N2 ≤ cap2) := own_cap ho7
            have hF : Hid (RowF w7.heap g2 N2 (LA.at_ m k)) := rowF_own ho7 fun j hj => HW.out _ j rfl hj
            have hT7 : Hid (Chg (fun x => wr.heap.size ≤ x) wr w7) := hT.out.trans (hc7.mono fun x _ hx => (own_block hown7 x hx).1)
            clear hown6 hchg6 hown7 ho7 hc7 hbl hT
            have hin : m.length + k < N2 := by have := HN2.out; omega
            have j64 : (m.length : Int) + (k : Int) < (N2 : Int) := by omega
            have j0 : (0 : Int) ≤ (m.length : Int) + (k : Int) := by omega
            have hjn : ((m.length : Int) + (k : Int)).toNat = m.length + k := by omega
            obtain ⟨f2, d2⟩ := hF.out.2 (m.length + k) hin
            rw [← cell_of] at d2
            rw [← froz_of] at f2
            have hF2 : Hid (RowF (w7.setCell ⟨g2, m.length + k, none⟩ (.int .u8 1)).heap g2 N2 (LA.at_ (wideM m) k)) := by
              have h1 := hF.out.set (j := m.length + k) hin 1
              exact RowF.congr h1 fun j hj => HWO.out j hj
            have hT8 : Hid (Chg (fun x => wr.heap.size ≤ x) wr (w7.setCell ⟨g2, m.length + k, none⟩ (.int .u8 1))) := hT7.out.setCell (p := ⟨g2, m.length + k, none⟩) (fun _ => hg2) _
            obtain ⟨ρ, κ, us, hu1, hu2, hu3, hu4, hu5⟩ := hR.out
            have HO : Hid ((w7.setCell ⟨g2, m.length + k, none⟩ (.int .u8 1)).ownsRow w2.heap.size 33 1 u6 us.length us) := owns_chg hu1 hT8.out fun b hb e => by have := (own_block hu1 b hb).2.1; omega
            have HU1 := Lib.hid hu1
            have HU2 := Lib.hid hu2
            have HU3 := Lib.hid hu3
            have HU4 := Lib.hid hu4
            have HU5 := Lib.hid hu5
            have hs2 := hT8.out.size
            generalize LA.at_ m k (m.length + k) = x0 at d2
            clear hu1 hu2 hu3 hu4 hu5 hin
            go_wp2_with (first | (at_builtin; refine Lib.wpList_append_run _ rfl _ _ _ _ rfl _ _ rfl rfl _ _ hrun ?_) | (at_builtin; refine wp_app1 elRows rfl _ _ rfl w2.heap.size u6 us rfl (HO.out.alloc _) _ (.slice (some ⟨g2, 0, none⟩) N2 cap2) rfl ?d1 rfl ?d2 ?d3 ?_))
            case d1 => simp [go_sem]
            case d2 => have := HU2.out; omega
            case d3 => simp; omega
            intro v' w9 hown hchg
            have ca : Chg (fun x => wr.heap.size ≤ x) wr ((w7.setCell ⟨g2, m.length + k, none⟩ (.int .u8 1)).alloc (.cells #[.slice (some ⟨g2, 0, none⟩) N2 cap2] 33)) := hT8.out.alloc _
            have hpush : Hid (∃ ρ κ, Grows w2.heap.size w9 v' (k + 1) N2 (LA.at_ (wideM m)) ρ κ) := ⟨_, _, Grows.push (f := LA.at_ (wideM m) k) HU2.out HU3.out HU4.out HU5.out ca (fun b hb e => by omega) hg2 (Nat.le_trans hsz hg2) (hF2.out.chg (T := fun _ => False) ((Chg.refl _ _).alloc _) (fun x => x)) HCAP2.out hown hchg
              (fun b hb => by
                obtain ⟨_, h5, h6⟩ := own_block HO.out b hb
                exact typH_chg (T := fun _ => False) ((Chg.refl _ _).alloc _) h6 (fun x => x)) (fun _ _ => rfl)⟩
            have hk2 : Hid (Keeps w2 w9) := ((hK.out.chg.trans (ca.mono fun b hb e => by omega)).trans (hchg.mono fun b hb0 hb => (own_block HU1.out b hb).1)).keeps fun b hb hx => by omega
            clear hown hchg ca
            go_wp2
            exact ⟨⟨k + 1, by omega, by go_num, hpush, hk2⟩, by simp [intOf]; omega⟩
          · obtain rfl : k = m.length := by omega
            obtain ⟨wq, rfl⟩ : ∃ wq : World, wq = wr := ⟨_, rfl⟩
            obtain ⟨ρ0, κ0, hG⟩ := hR.out
            obtain ⟨g, cap, rfl, hl⟩ := hG.lies (by omega)
            have hlw : (wideM m).length = m.length := beside_length _ _
            have HRW : Hid (LA.Rect (wideM m) N2) := by rw [HN2.out]; exact wideM_rect HRS.out
            have HMW : Hid (MatAt wq.heap (.slice (some ⟨g, 0, none⟩) m.length cap) (wideM m)) := by
              have h1 : Lies w2.heap.size wq.heap g cap (wideM m).length N2 (LA.at_ (wideM m)) ρ0 κ0 := by rw [hlw]; exact hl
              have h2 := h1.mat HRW.out (fun _ _ _ _ => rfl) (by omega) (by omega)
              rw [hlw] at h2
              exact h2.at_
            have HD2 : Hid (Calls Try.prog 72 #[.slice (some ⟨g, 0, none⟩) m.length cap] wq (RefDowned wq (wideM m) N2)) := refdown_any _ (wideM m) N2 wq HMW.out HRW.out (by omega) (by omega) (by have := HN2.out; omega) (by omega)
            have HLN : Hid ((LA.dn (wideM m) N2).1.length = m.length) := by show _ = _; rw [dn_len, hlw]
            have HLW := Lib.hid hlw
            have HRN : Hid (LA.Rect (LA.dn (wideM m) N2).1 N2) := dn_rect HRW.out _
            have HTO : Hid (turnOf m = (LA.dn (wideM m) N2).1.map (List.drop m.length)) := by show _ = _; unfold turnOf; rw [HN2.out]
            have HKr := Lib.hid (HK.out.call hK.out (Nat.le_refl _))
            clear hlw hG hl hR hK HMW
            go_wp2_with fail
            refine Calls.mono HD2.out ?_
            rintro e w5 ⟨g5, cap5, ρ5, κ5, rfl, hl5, hk5⟩
            have HL5 := Lib.hid hl5
            have HK5 := Lib.hid (HKr.out.call hk5 (Nat.le_refl _))
            clear hl5 hk5
            rw [HLW.out] at HL5 ⊢
            go_wp2_with fail
            go_loopw [9, 10] (fun v i wx => ∃ k : Nat, k ≤ m.length ∧ i = .int .i64 k ∧ Hid (OwnRows w5.heap.size wx v ((turnOf m).take k)) ∧ Hid (Keeps w5 wx)) (fun _ i _ => m.length - (intOf i).toNat)
            case atStart => exact ⟨0, by omega, rfl, OwnSeq.nil _ _ _ _, keeps_refl _⟩
            case round =>
              obtain ⟨k, hk, rfl, hO, hKx⟩ := hrel
              by_cases hkl : k < m.length
              · have k64 : (k : Int) < (m.length : Int) := by omega
                have k0 : (0 : Int) ≤ (k : Int) := by omega
                have HLx : Hid (Lies wq.heap.size wr.heap g5 cap5 m.length N2 (LA.at_ (LA.dn (wideM m) N2).1) ρ5 κ5) := HL5.out.chg (T := fun _ => False) (Kept.any hKx.out) (fun _ _ _ x => x)
                obtain ⟨d1, _⟩ := HLx.out.cell hkl
                rw [← cell_of] at d1
                have hb1 := cell_lt d1
                have hno : m.length < N2 := by have := HN2.out; omega
                have hct := cut_tail (ρ5 k) N2 (κ5 k) m.length hno (HLx.out.room hkl)
                have hkM : k < (LA.dn (wideM m) N2).1.length := by have := HLN.out; omega
                have hrow : RowAt wr.heap (.slice (some ⟨ρ5 k, m.length, none⟩) (N2 - m.length) (κ5 k - m.length)) (((LA.dn (wideM m) N2).1.getD k []).drop m.length) := RowF.tail (HLx.out.row hkl) HRN.out hkM (by omega)
                have HSN : Hid ((turnOf m).take (k + 1) = (turnOf m).take k ++ [((LA.dn (wideM m) N2).1.getD k []).drop m.length]) := by
                  show _ = _
                  have h5 : k < (turnOf m).length := by rw [turnOf_length]; exact hkl
                  rw [← List.take_append_getElem h5]
                  have h6 := HTO.out
                  have h7 : (turnOf m)[k] = ((LA.dn (wideM m) N2).1.map (List.drop m.length))[k]'(by rw [List.length_map]; exact hkM) := List.getElem_of_eq h6 h5
                  rw [h7, List.getElem_map, List.getD_eq_getElem?_getD, List.getElem?_eq_getElem hkM]; rfl
                have RL : Hid ((((LA.dn (wideM m) N2).1.getD k []).drop m.length).length = N2 - m.length) := by
                  show _ = _
                  have h5 : ((LA.dn (wideM m) N2).1.getD k []).length = N2 := LA.rect_row HRN.out hkM
                  rw [List.length_drop, h5]
                obtain ⟨us, hu1, hu2, hu3⟩ := hO.out
                have hul : us.length = k := by rw [hu2, List.length_take, turnOf_length]; omega
                have HU := Lib.hid hu1
                have HL5 := Lib.hid hu2
                have HL6 := Lib.hid hul
                have H3 := Lib.hid hu3
                have hsz := hKx.out.size
                generalize ((LA.dn (wideM m) N2).1.getD k []).drop m.length = r at *
                have R5 : Hid (RowAt (wr.alloc (.cells #[] 5)).heap (.slice (some ⟨ρ5 k, m.length, none⟩) (N2 - m.length) (κ5 k - m.length)) r) := SeqAt.keeps hrow ((Kept.refl _ _).alloc (Nat.le_refl _) _)
                clear hu1 hu2 hul hu3 hrow hkM
                go_wp2_with (at_builtin; refine wp_apps_row elRow rfl _ _ rfl wr.heap.size _ [] rfl (own_empty _ _ _ (Nat.le_refl _)) (some ⟨ρ5 k, m.length, none⟩) (N2 - m.length) (κ5 k - m.length) r rfl R5.out ?e1 ?e2 ?_)
                case e1 => have := RL.out; simp; omega
                case e2 => simp
                intro v6 w6 hown6 hchg6
                have hc6 : Hid (Chg (fun x => x = wr.heap.size) wr w6) := ((Chg.refl _ wr).alloc _).trans (hchg6.mono fun x _ h => by simp only [Value.ownBlock, Option.some.injEq] at h; exact h.symm)
                have hr6 : Hid (RowIn (wr.heap.size ≤ ·) w6.heap v6 r) := (bytesV_seq (by rw [bytesV_length]; simpa using hown6)).seq (by have := RL.out; omega)
                have HO : Hid (w6.ownsRow w5.heap.size 33 1 u9 us.length us) := owns_chg HU.out hc6.out fun b hb e => by have := (own_block HU.out b hb).2.1; omega
                have HROW : Hid (RowIn (w5.heap.size ≤ ·) w6.heap v6 r) := SeqIn.mono hr6.out (fun b hb => Nat.le_trans hsz hb) fun _ _ x => x
                have hs6 := hc6.out.size
                obtain ⟨p6, q6, rfl⟩ := seq_shape hr6.out.at_
                clear hown6 hchg6
                go_wp2_with (at_builtin; refine wp_app1 elRows rfl _ _ rfl w5.heap.size u9 us rfl (HO.out.alloc _) _ (.slice p6 r.length q6) rfl ?f1 rfl ?f2 ?f3 ?_)
                case f1 => simp [go_sem]
                case f2 => have := HL6.out; omega
                case f3 => simp; omega
                intro v' w8 hown hchg
                have ca : Chg (fun x => x = wr.heap.size) wr (w6.alloc (.cells #[.slice p6 r.length q6] 33)) := hc6.out.alloc _
                have hpush := OwnRows.push (m := (turnOf m).take k) HL5.out H3.out ca (fun b hb _ _ e => by omega) hown hchg
                  (fun b hb => by
                    obtain ⟨_, h5, h6⟩ := own_block HO.out b hb
                    exact typH_chg (T := fun _ => False) ((Chg.refl _ w6).alloc _) h6 (fun x => x))
                  (SeqIn.chg HROW.out (T := fun _ => False) ((Chg.refl _ _).alloc _) (fun _ _ _ _ x => x) fun _ _ _ x => x)
                have hk2 : Hid (Keeps w5 w8) := ((hKx.out.chg.trans (ca.mono fun b hb e => by omega)).trans (hchg.mono fun b hb0 hb => by
                  exact (own_block HU.out b hb).1)).keeps fun b hb hx => by omega
                have HP := Lib.hid hpush
                clear hown hchg hpush
                go_wp2
                exact ⟨⟨k + 1, by omega, by go_num, by rw [HSN.out]; exact HP.out, hk2⟩, by simp [intOf]; omega⟩
              · obtain rfl : k = m.length := by omega
                have HRo : Hid (OwnRows w5.heap.size wr u9 (turnOf m)) := by have := hO.out; rw [← turnOf_length, List.take_length] at this; exact this
                have HKE : Hid (Keeps w wr) := HK5.out.call hKx.out (Nat.le_refl _)
                have hsz5 := HK5.out.size
                go_wp2_with fail
                go_ret2
                rw [e.out]
                exact ⟨_, rfl, (HRo.out.mat (by rw [turnOf_length]; omega)).mono fun b hb => Nat.le_trans hsz5 hb, HKE.out⟩
    · have e : Hid (turnM m = ([], 4)) := by show _ = _; unfold turnM; rw [MA.out, decide_eq_false hsq]; rfl
      have hne : ((m.length : Int) != (colsN m : Int)) = true := by rw [bne_iff_ne]; omega
      clear hR hm hsq
      go_enter Try.func47, Try.ntmps47
      go_wp2_with fail
      refine Calls.mono (refmay04_is _ m _ HA.out _ MA.out) ?_
      rintro e w1 ⟨rfl, hk⟩
      have HA := Lib.hid (HA.out.keeps hk)
      obtain ⟨p0, q0, d0⟩ := row0y HA.out a1
      change w1.cell? _ = some (.slice p0 (colsN m) q0) at d0
      go_wp2
      go_ret2
      rw [e.out]
      exact GiveMat.err hk
end Go.Proofs.Ytojdodbedemkoaa
/- The walk of strongboxref04.Solve. -/
namespace Go.Proofs.Ytojdodbedemkoaa
open Go.RowKit
/-- What Solve tells are the products of the matrix turned about and the list. -/
theorem solve_turned {m : LA.Mat} {n : Nat} {v : List UInt8} (h : LA.Rect m n) (hl : m.length = n) (hf : (LA.dn m n).2 = n) (hv : v.length = n) : solveOf m v = (List.range n).map (vecAt (turnOf m) v) := by
  have ls : (colM (solveOf m v)).length = n := by rw [colM_length]; unfold solveOf; simp [hl]
  have h2 := ((turn_full h hl hf).2 (fun k => (solveOf m v).getD k 0) (fun k => v.getD k 0)).1 fun i hi => by
    rw [← solve_tells h hl hf i hi]
    unfold prodAt
    rw [ls]
    exact LA.sum_congr fun k _ => by rw [colM_at]
  refine List.ext_getElem (by unfold solveOf; simp [hl]) fun i h3 h4 => ?_
  have hi : i < n := by simpa using h4
  have h5 := h2 i hi
  rw [List.getD_eq_getElem?_getD, List.getElem?_eq_getElem h3] at h5
  rw [List.getElem_map, List.getElem_range]
  unfold vecAt
  rw [hv]
  exact h5

/-- What Turn and Solve tell, case by case. -/
theorem solve_cases (m : LA.Mat) (v : List UInt8) :
    (turnM m = ([], 4) ∧ solveM m v = ([], 4)) ∨ (∃ X r, turnM m = (X, r) ∧ r ≠ 4 ∧ v.length ≠ m.length ∧ solveM m v = ([], 4)) ∨ (turnM m = ([], 5) ∧ v.length = m.length ∧ solveM m v = ([], 5)) ∨
    (∃ X, turnM m = (X, 0) ∧ v.length = m.length ∧ LA.Rect X m.length ∧ X.length = m.length ∧ 1 ≤ m.length ∧ m.length ≤ 255 ∧ solveM m v = ((List.range m.length).map (vecAt X v), 0)) := by
  cases hm : mayB 255 m with
  | false => exact Or.inl ⟨by unfold turnM; rw [hm]; rfl, by unfold solveM; rw [hm]; rfl⟩
  | true =>
    obtain ⟨a1, a2, a3, a4, hR⟩ := may_cols hm
    by_cases hsq : m.length = colsN m
    · have hRS : LA.Rect m m.length := by rw [← hsq] at hR; exact hR
      have et := turnM_sq hRS rfl a1 a2
      by_cases hv : v.length = m.length
      · have es : solveM m v = if (LA.dn m m.length).2 < m.length then ([], 5) else (solveOf m v, 0) := by
          unfold solveM; rw [hm, decide_eq_true hsq, decide_eq_true hv, ← hsq]; rfl
        by_cases hf : (LA.dn m m.length).2 < m.length
        · exact Or.inr (Or.inr (Or.inl ⟨by rw [et, if_pos hf], hv, by rw [es, if_pos hf]⟩))
        · have hf2 : (LA.dn m m.length).2 = m.length := by have := dn2_le (m := m) rfl; omega
          exact Or.inr (Or.inr (Or.inr ⟨turnOf m, by rw [et, if_neg hf], hv, (turn_full hRS rfl hf2).1, turnOf_length m, a1, a2, by rw [es, if_neg hf, solve_turned hRS rfl hf2 hv]⟩))
      · refine Or.inr (Or.inl ?_)
        have es : solveM m v = ([], 4) := by unfold solveM; rw [decide_eq_false hv, Bool.and_false]; rfl
        by_cases hf : (LA.dn m m.length).2 < m.length
        · exact ⟨_, _, by rw [et, if_pos hf], by decide, hv, es⟩
        · exact ⟨_, _, by rw [et, if_neg hf], by decide, hv, es⟩
    · exact Or.inl ⟨by unfold turnM; rw [hm, decide_eq_false hsq]; rfl, by unfold solveM; rw [hm, decide_eq_false hsq]; rfl⟩

set_option maxRecDepth 100000 in
set_option maxHeartbeats 8000000 in
theorem refsolve_any (va vb : Value) (m : List (List UInt8)) (v : List UInt8) (w : World) (ha : MatAt w.heap va m) (hb : RowAt w.heap vb v) : Calls Try.prog 51 #[va, vb] w (GiveRow w (solveM m v)) := by
  obtain ⟨pa, qa, rfl⟩ := seq_shape ha
  obtain ⟨pb, qb, rfl⟩ := seq_shape hb
  have HA := Lib.hid ha
  have HB := Lib.hid hb
  clear ha hb
  rcases solve_cases m v with ⟨t, s⟩ | ⟨X, r, t, hr4, hv, s⟩ | ⟨t, hv, s⟩ | ⟨X, t, hv, rx, lx, l1, l2, s⟩
  · have T := Lib.hid t
    have S := Lib.hid s
    clear t s
    go_enter Try.func51, Try.ntmps51
    go_wp2_with fail
    refine Calls.mono (gave (refturn_any _ m _ HA.out) T.out) ?_
    rintro e w1 ⟨x, rfl, _, hk⟩
    go_wp2
    go_ret2
    rw [S.out]
    exact GiveRow.err hk
  · have T := Lib.hid t
    have S := Lib.hid s
    have h4 : (r == 4) = false := beq_eq_false_iff_ne.2 hr4
    have hne : ((v.length : Int) != (m.length : Int)) = true := by rw [bne_iff_ne]; omega
    clear t s hr4 hv
    go_enter Try.func51, Try.ntmps51
    go_wp2_with fail
    refine Calls.mono (gave (refturn_any _ m _ HA.out) T.out) ?_
    rintro e w1 ⟨x, rfl, _, hk⟩
    go_wp2
    go_ret2
    rw [S.out]
    exact GiveRow.err hk
  · have T := Lib.hid t
    have S := Lib.hid s
    have hne : ((v.length : Int) != (m.length : Int)) = false := by rw [bne_eq_false_iff_eq]; omega
    clear t s hv
    go_enter Try.func51, Try.ntmps51
    go_wp2_with fail
    refine Calls.mono (gave (refturn_any _ m _ HA.out) T.out) ?_
    rintro e w1 ⟨x, rfl, _, hk⟩
    go_wp2
    go_ret2
    rw [S.out]
    exact GiveRow.err hk
  · have T := Lib.hid t
    have S := Lib.hid s
    have RX := Lib.hid rx
    have LX := Lib.hid lx
    have HV := Lib.hid hv
    have hne : ((v.length : Int) != (m.length : Int)) = false := by rw [bne_eq_false_iff_eq]; omega
    clear t s rx lx
    go_enter Try.func51, Try.ntmps51
    go_wp2_with fail
    refine Calls.mono (gave (refturn_any _ m _ HA.out) T.out) ?_
    rintro e wz ⟨x, rfl, hX, hk⟩
    have HAz : Hid (MatAt wz.heap x X) := hX.at_
    have HBz := Lib.hid (SeqAt.keeps HB.out hk)
    have HKz := Lib.hid hk
    obtain ⟨px, qx, rfl⟩ := seq_shape HAz.out
    obtain ⟨b1, o1, rfl⟩ := mat_addr HAz.out (by have := LX.out; omega)
    obtain ⟨n, hn⟩ : ∃ n, n = m.length := ⟨_, rfl⟩
    rw [LX.out, ← hn] at HAz ⊢
    have HN := Lib.hid hn
    have l1 : 1 ≤ n := by omega
    have l2 : n ≤ 255 := by omega
    have hvn : v.length = n := by omega
    have HVN := Lib.hid hvn
    have hne2 : ((v.length : Int) != (n : Int)) = false := by rw [bne_eq_false_iff_eq]; omega
    have RXN : Hid (LA.Rect X n) := by rw [hn]; exact RX.out
    have LXN : Hid (X.length = n) := by show _ = _; rw [hn]; exact LX.out
    clear hX hk hn hvn hv
    go_wp2_with fail
    go_loopw [8, 9] (fun u i wr => ∃ k : Nat, k ≤ n ∧ i = .int .i64 k ∧ Hid (OwnSeq wz.heap.size 5 IsByte wr u ((List.range k).map (vecAt X v))) ∧ Hid (Keeps wz wr)) (fun _ i _ => n - (intOf i).toNat)
    case atStart => exact ⟨0, by omega, rfl, OwnSeq.nil _ _ _ _, keeps_refl wz⟩
    case round =>
      obtain ⟨k, hk, rfl, hr, hk1⟩ := hrel
      obtain ⟨wi, rfl⟩ : ∃ wi : World, wi = wr := ⟨_, rfl⟩
      by_cases hlt : k < n
      · have hlt64 : (k : Int) < (n : Int) := by omega
        have HAi := Lib.hid (HAz.out.keeps hk1.out)
        have HBi := Lib.hid (SeqAt.keeps HBz.out hk1.out)
        go_wp2_with fail
        go_loopw [10, 11] (fun x t wt => ∃ tt : Nat, tt ≤ v.length ∧ t = .int .i64 tt ∧ x = .int .u8 ((LA.sum tt fun q => LA.mul (LA.at_ X k q) (v.getD q 0)).toNat : Int) ∧ ∃ n, wt = wi.drewN n) (fun _ t _ => v.length - (intOf t).toNat)
        case atStart => exact ⟨0, by omega, rfl, rfl, 0, rfl⟩
        case round =>
          obtain ⟨t, ht, rfl, rfl, n0, rfl⟩ := hrel
          by_cases htl : t < v.length
          · have ht64 : (t : Int) < (v.length : Int) := by omega
            have hxl : (X.getD k []).length = n := LA.rect_row RXN.out (by have := LXN.out; omega)
            obtain ⟨c1, c2, c3, c4, c5, c6, e1, f1, f2⟩ := mat_cell (j := t) HAi.out (show k < X.length by have := LXN.out; omega) (by rw [hxl, ← HVN.out]; exact htl)
            obtain ⟨g1, g2, g3, e2, f3⟩ := row_cell HBi.out htl
            rw [hxl] at f1
            injection e1 with e3 e4 e5
            injection e3 with e3
            injection e3 with e6 e7
            subst e6 e7
            injection e2 with e8 e9 e10
            subst e8
            have hx := gxor (LA.sum t fun q => LA.mul (LA.at_ X k q) (v.getD q 0)) (LA.mul (LA.at_ X k t) (v.getD t 0))
            have hs : Hid (LA.sum (t + 1) (fun q => LA.mul (LA.at_ X k q) (v.getD q 0)) = LA.sum t (fun q => LA.mul (LA.at_ X k q) (v.getD q 0)) ^^^ LA.mul (LA.at_ X k t) (v.getD t 0)) := rfl
            have hlna : (t : Int) < (n : Int) := by have := HVN.out; omega
            generalize LA.sum t (fun q => LA.mul (LA.at_ X k q) (v.getD q 0)) = s at *
            generalize LA.at_ X k t = x at *
            generalize v.getD t 0 = y at *
            clear e4 e5 e9 e10 hxl
            go_wp2_with fail
            go_quiet (first | (go_at_call 59; refine Calls.mono (grefmul _ _ _) ?_; rintro e w' ⟨rfl, rfl⟩; exact ⟨rfl, _, rfl⟩))
            go_wp2
            exact ⟨⟨t + 1, by omega, rfl, by rw [hs.out]; rfl, _, rfl⟩, by simp [intOf]; omega⟩
          · obtain rfl : t = v.length := by omega
            obtain ⟨us, hu1, hu2, hu3⟩ := hr.out
            have hul : us.length = k := by rw [hu2]; simp
            have HU := Lib.hid hu1
            have HL2 := Lib.hid hu2
            have HL3 := Lib.hid hul
            have H3 := Lib.hid hu3
            have hsz := hk1.out.size
            have hpe : Hid (LA.sum v.length (fun q => LA.mul (LA.at_ X k q) (v.getD q 0)) = vecAt X v k) := rfl
            rw [hpe.out]
            clear hu1 hu2 hul hu3
            have HUn : Hid ((wi.drewN n0).ownsRow wz.heap.size 5 1 u8 us.length us) := HU.out
            go_wp2_with (at_builtin; refine wp_app1 elRow rfl _ _ rfl wz.heap.size u8 us rfl (HUn.out.alloc _) _ (.int .u8 ((vecAt X v k).toNat : Int)) rfl ?c1 rfl ?c2 ?c3 ?_)
            case c1 => exact World.cell?_alloc_new _ _ _ _
            case c2 => have := HL3.out; omega
            case c3 => simp; omega
            intro v' w2 hown hchg
            have hpush : OwnSeq wz.heap.size 5 IsByte w2 v' (((List.range k).map (vecAt X v)) ++ [vecAt X v k]) := OwnSeq.push (R := IsByte) HL2.out H3.out hown (fun _ _ _ x => x) rfl
            have hk2 : Hid (Keeps wz w2) := ((hk1.out.chg.trans ((Chg.refl (fun x => wz.heap.size ≤ x) (wi.drewN n0)).alloc _)).trans (hchg.mono fun x _ hx => (own_block HU.out x hx).1)).keeps fun x hx h => by omega
            have HP := Lib.hid hpush
            clear hown hchg hpush
            go_wp2
            exact ⟨⟨k + 1, by omega, rfl, by have := HP.out; rw [List.range_succ, List.map_append]; exact this, hk2⟩, by simp [intOf]; omega⟩
      · obtain rfl : k = n := by omega
        go_wp2
        go_ret2
        rw [S.out, ← HN.out]
        exact ⟨_, rfl, SeqIn.mono (hr.out.seq (by simp; omega)) (fun b hb => Nat.le_trans HKz.out.size hb) fun _ _ x => x, HKz.out.call hk1.out (Nat.le_refl _)⟩
end Go.Proofs.Ytojdodbedemkoaa
