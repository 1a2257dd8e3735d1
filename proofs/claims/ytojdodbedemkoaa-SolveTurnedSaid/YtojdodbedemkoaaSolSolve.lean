/- The walk of solve.Solve. -/
import Derived.Test.YtojdodbedemkoaaSolTurn
namespace Go.Proofs.Ytojdodbedemkoaa
open Go.RowKit
/-- The wide matrix while the list is laid beside it. -/
def listF (m : LA.Mat) (v : List UInt8) (k : Nat) : Nat → Nat → UInt8 := fun i j => if i < k ∧ j = m.length then v.getD i 0 else LA.at_ m i j
theorem listF_all {m : LA.Mat} (v : List UInt8) (hr : LA.Rect m m.length) {i j : Nat} (hi : i < m.length) (hj : j < m.length + 1) : listF m v m.length i j = LA.at_ (wideV m v) i j := by
  unfold listF wideV
  rw [beside_at hr _ hi]
  by_cases e : j < m.length
  · rw [if_neg (by omega), if_pos e]
  · obtain rfl : j = m.length := by omega
    rw [if_pos ⟨hi, rfl⟩, if_neg e, Nat.sub_self]; rfl
theorem wideV_rect {m : LA.Mat} (v : List UInt8) (hr : LA.Rect m m.length) : LA.Rect (wideV m v) (m.length + 1) := LA.beside_rect hr _ fun _ _ => rfl

set_option maxRecDepth 100000 in
set_option maxHeartbeats 8000000 in
theorem solve_any (va vb : Value) (m : List (List UInt8)) (v : List UInt8) (w : World) (ha : MatAt w.heap va m) (hb : RowAt w.heap vb v) : Calls Try.prog 45 #[va, vb] w (GiveRow w (solveM m v)) := by
  obtain ⟨pa, qa, rfl⟩ := seq_shape ha
  obtain ⟨pb, qb, rfl⟩ := seq_shape hb
  have HA := Lib.hid ha
  have HB := Lib.hid hb
  clear ha hb
  cases hm : mayB 255 m with
  | false =>
    have e : Hid (solveM m v = ([], 4)) := by show _ = _; unfold solveM; rw [hm]; rfl
    have MA := Lib.hid hm
    clear hm
    go_enter Try.func45, Try.ntmps45
    go_wp2_with fail
    refine Calls.mono (smay_is _ m _ HA.out _ MA.out) ?_
    rintro e w1 ⟨rfl, hk⟩
    go_wp2
    go_ret2
    rw [e.out]
    exact GiveRow.err hk
  | true =>
    obtain ⟨a1, a2, a3, a4, hR⟩ := may_cols hm
    obtain ⟨b1, o1, ea⟩ := mat_addr HA.out a1
    subst ea
    have MA := Lib.hid hm
    have i1 : (0 : Int) < (m.length : Int) := by omega
    by_cases hsq : m.length = colsN m
    · have hne : ((m.length : Int) != (colsN m : Int)) = false := by rw [bne_eq_false_iff_eq, hsq]
      have HSQ := Lib.hid hsq
      have HRS : Hid (LA.Rect m m.length) := by rw [← hsq] at hR; exact hR
      have HR := Lib.hid hR
      clear hR hm hsq
      by_cases hvl : v.length = m.length
      · have hne2 : ((v.length : Int) != (m.length : Int)) = false := by rw [bne_eq_false_iff_eq, hvl]
        have HVL := Lib.hid hvl
        clear hvl
        go_enter Try.func45, Try.ntmps45
        go_wp2_with fail
        refine Calls.mono (smay_is _ m _ HA.out _ MA.out) ?_
        rintro e w1 ⟨rfl, hk⟩
        have HA := Lib.hid (HA.out.keeps hk)
        have HB := Lib.hid (SeqAt.keeps HB.out hk)
        have HK := Lib.hid hk
        obtain ⟨p0, q0, d0⟩ := row0y HA.out a1
        change w1.cell? _ = some (.slice p0 (colsN m) q0) at d0
        clear hk
        go_wp2_with fail
        clear d0 hne2
        refine Calls.mono (sown_any _ m 1 w1 HA.out MA.out (by omega)) ?_
        rintro e w4 ⟨g, cap, ρ, κ, rfl, hl, hk⟩
        obtain ⟨N2, hN2⟩ : ∃ N2, N2 = m.length + 1 := ⟨_, rfl⟩
        have hl : Lies w1.heap.size w4.heap g cap m.length N2 (listF m v 0) ρ κ := by
          have h1 : Lies w1.heap.size w4.heap g cap m.length (colsN m + 1) (LA.at_ m) ρ κ := hl
          rw [← HSQ.out, ← hN2] at h1
          exact h1.congr fun i _ j _ => by unfold listF; rw [if_neg (by omega)]
        have HL := Lib.hid hl
        have HK4 := Lib.hid hk
        have HB4 := Lib.hid (SeqAt.keeps HB.out hk)
        have HA4 := Lib.hid (HA.out.keeps hk)
        have HN2 := Lib.hid hN2
        have hn2 : N2 ≤ 256 := by omega
        clear hl hk hN2
        go_wp2_with fail
        go_loopw [35] (fun i wr => ∃ k : Nat, k ≤ m.length ∧ i = .int .i64 k ∧ Hid (Lies w1.heap.size wr.heap g cap m.length N2 (listF m v k) ρ κ) ∧ Hid (Chg (fun b => w1.heap.size ≤ b ∧ b < w4.heap.size) w4 wr)) (fun i _ => m.length - (intOf i).toNat)
        case atStart => exact ⟨0, by omega, rfl, HL, Chg.refl _ _⟩
        case round =>
          obtain ⟨k, hk, rfl, hLk, hCk⟩ := hrel
          have hkw : Hid (Keeps w1 wr) := chg_keeps HK4.out (hCk.out.mono fun b _ h => h.1)
          by_cases hkl : k < m.length
          · have k64 : (k : Int) < (m.length : Int) := by omega
            have v64 : (k : Int) < (v.length : Int) := by have := HVL.out; omega
            have k0 : (0 : Int) ≤ (k : Int) := by omega
            have j64 : (m.length : Int) < (N2 : Int) := by have := HN2.out; omega
            obtain ⟨d1, _⟩ := hLk.out.cell hkl
            obtain ⟨f2, d2⟩ := (hLk.out.row hkl).2 m.length (by have := HN2.out; omega)
            obtain ⟨bv, ov, cv, ev, d3⟩ := row_cell (SeqAt.keeps HB.out hkw.out) (j := k) (by have := HVL.out; omega)
            injection ev with ev1 ev2 ev3
            subst ev1 ev3
            rw [← cell_of] at d1 d2
            rw [← froz_of] at f2
            have HNX : Hid (Lies w1.heap.size (wr.setCell ⟨ρ k, m.length, none⟩ (.int .u8 ((v.getD k 0).toNat : Int))).heap g cap m.length N2 (listF m v (k + 1)) ρ κ) := by
              have h1 := (hLk.out.row hkl).set (j := m.length) (by have := HN2.out; omega) (v.getD k 0)
              have h2 := hLk.out.over hkl (w' := wr.setCell ⟨ρ k, m.length, none⟩ (.int .u8 ((v.getD k 0).toNat : Int))) (Chg.setCell (p := ⟨ρ k, m.length, none⟩) (T := fun b => b = ρ k) (Chg.refl _ wr) (fun _ => rfl) _) h1
              refine h2.congr fun i _ j _ => ?_
              unfold listF
              by_cases e1 : i = k
              · subst e1
                try dsimp only
                rw [if_pos rfl]
                by_cases e2 : j = m.length
                · rw [if_pos e2, if_pos ⟨by omega, e2⟩]
                · rw [if_neg e2, if_neg (fun h => e2 h.2), if_neg (fun h => e2 h.2)]
              · try dsimp only
                rw [if_neg e1]
                by_cases e2 : i < k ∧ j = m.length
                · rw [if_pos e2, if_pos ⟨by omega, e2.2⟩]
                · rw [if_neg e2, if_neg (fun h => e2 ⟨by omega, h.2⟩)]
            have hbk := (hLk.out.2.2.1 k hkl).1
            have hbl : ρ k < w4.heap.size := by have := hLk.out.rlt hkl; exact (HL.out.rlt hkl)
            generalize listF m v k k m.length = x at *
            generalize v.getD k 0 = y at *
            go_wp2_with fail
            exact ⟨⟨k + 1, by omega, by go_num, HNX, Chg.setCell (T := fun b => w1.heap.size ≤ b ∧ b < w4.heap.size) hCk.out (fun _ => ⟨hbk, hbl⟩) _⟩, by simp [intOf]; omega⟩
          · obtain rfl : k = m.length := by omega
            have HAr := Lib.hid (HA.out.keeps hkw.out)
            have HKr : Hid (Keeps w wr) := HK.out.call hkw.out (Nat.le_refl _)
            go_wp2_with fail
            refine Calls.mono (own0_any _ m _ HAr.out MA.out) ?_
            rintro e w5 ⟨g5, cap5, ρ5, κ5, rfl, hl5, hk5⟩
            have HL5 := Lib.hid hl5
            have HK5 := Lib.hid hk5
            clear hl5 hk5
            go_wp2_with fail
            refine Calls.mono (down_any wr.heap.size g5 cap5 (colsN m) m ρ5 κ5 w5 HL5.out HR.out a1 a2 a3 (by omega)) ?_
            rintro e w6 ⟨rfl, _, hc⟩
            have hk6 := chg_keeps HK5.out hc
            have HK6 : Hid (Keeps w w6) := HKr.out.call hk6 (Nat.le_refl _)
            have HK16 : Hid (Keeps w1 w6) := hkw.out.call hk6 (Nat.le_refl _)
            have HLW0 : Hid (Lies w1.heap.size w6.heap g cap m.length N2 (listF m v m.length) ρ κ) := hLk.out.chg (T := fun _ => False) (Kept.any hk6) (fun _ _ _ x => x)
            clear hk6 hc HL5 HK5
            by_cases hrk : (LA.dn m (colsN m)).2 < m.length
            · have e : Hid (solveM m v = ([], 5)) := by show _ = _; unfold solveM; rw [MA.out, decide_eq_true HSQ.out, decide_eq_true HVL.out, if_pos hrk]; rfl
              have hq : decide ((((LA.dn m (colsN m)).2 : Nat) : Int) < (m.length : Int)) = true := decide_eq_true (by omega)
              have hq2 : decide ((LA.dn m (colsN m)).2 < m.length) = true := decide_eq_true hrk
              go_wp2_with fail
              go_ret2
              rw [e.out]
              exact GiveRow.err HK6.out
            · have e : Hid (solveM m v = (solveOf m v, 0)) := by show _ = _; unfold solveM; rw [MA.out, decide_eq_true HSQ.out, decide_eq_true HVL.out, if_neg hrk]; rfl
              have hq : decide ((((LA.dn m (colsN m)).2 : Nat) : Int) < (m.length : Int)) = false := decide_eq_false (by omega)
              have hq2 : decide ((LA.dn m (colsN m)).2 < m.length) = false := decide_eq_false hrk
              clear hrk
              have hlw : (wideV m v).length = m.length := beside_length _ _
              have HLW : Hid (Lies w1.heap.size w6.heap g cap (wideV m v).length N2 (LA.at_ (wideV m v)) ρ κ) := by
                show Lies _ _ _ _ _ _ _ _ _
                rw [hlw]
                exact HLW0.out.congr fun i hi j hj => listF_all v HRS.out hi (by have := HN2.out; omega)
              have HRW : Hid (LA.Rect (wideV m v) N2) := by rw [HN2.out]; exact wideV_rect v HRS.out
              have HDW := Lib.hid (down_any w1.heap.size g cap N2 (wideV m v) ρ κ w6 HLW.out HRW.out (by omega) (by omega) (by have := HN2.out; omega) (by omega))
              have HD2 : Hid (Calls Try.prog 70 #[.slice (some ⟨g, 0, none⟩) m.length cap] w6 (Downed w1.heap.size g cap m.length N2 (wideV m v) w6)) := by
                have h1 := HDW.out
                rw [hlw] at h1; exact h1
              have HTO : Hid (solveOf m v = (List.range m.length).map fun i => LA.at_ (LA.dn (wideV m v) N2).1 i m.length) := by show _ = _; unfold solveOf; rw [HN2.out]
              clear hlw
              go_wp2_with fail
              refine Calls.mono HD2.out ?_
              rintro e w7 ⟨rfl, ⟨ρ', κ', hl7⟩, hc7⟩
              have HL7 := Lib.hid hl7
              have HK7 : Hid (Keeps w w7) := HK.out.call (chg_keeps HK16.out hc7) (Nat.le_refl _)
              clear hl7 hc7 hq hq2
              go_wp2_with fail
              go_loopw [9, 59] (fun u i wx => ∃ k : Nat, k ≤ m.length ∧ i = .int .i64 k ∧ Hid (OwnSeq w7.heap.size 5 IsByte wx u ((List.range k).map fun i => LA.at_ (LA.dn (wideV m v) N2).1 i m.length)) ∧ Hid (Keeps w7 wx)) (fun _ i _ => m.length - (intOf i).toNat)
              case atStart => exact ⟨0, by omega, rfl, OwnSeq.nil _ _ _ _, keeps_refl _⟩
              case round =>
                obtain ⟨k, hk, rfl, hO, hKx⟩ := hrel
                have HLx : Hid (Lies w1.heap.size wr.heap g cap m.length N2 (LA.at_ (LA.dn (wideV m v) N2).1) ρ' κ') := HL7.out.chg (T := fun _ => False) (Kept.any hKx.out) (fun _ _ _ x => x)
                by_cases hkl : k < m.length
                · have k64 : (k : Int) < (m.length : Int) := by omega
                  have k0 : (0 : Int) ≤ (k : Int) := by omega
                  have j64 : (m.length : Int) < (N2 : Int) := by have := HN2.out; omega
                  obtain ⟨d1, _⟩ := HLx.out.cell hkl
                  obtain ⟨_, d2⟩ := (HLx.out.row hkl).2 m.length (by have := HN2.out; omega)
                  rw [← cell_of] at d1 d2
                  obtain ⟨us, hu1, hu2, hu3⟩ := hO.out
                  have hul : us.length = k := by rw [hu2]; simp
                  have HU := Lib.hid hu1
                  have HL2 := Lib.hid hu2
                  have HL3 := Lib.hid hul
                  have H3 := Lib.hid hu3
                  have hsz := hKx.out.size
                  have HPE : Hid ((List.range (k + 1)).map (fun i => LA.at_ (LA.dn (wideV m v) N2).1 i m.length) = (List.range k).map (fun i => LA.at_ (LA.dn (wideV m v) N2).1 i m.length) ++ [LA.at_ (LA.dn (wideV m v) N2).1 k m.length]) := by show _ = _; rw [List.range_succ, List.map_append]; rfl
                  clear hu1 hu2 hul hu3
                  generalize LA.at_ (LA.dn (wideV m v) N2).1 k m.length = x at *
                  go_wp2_with (at_builtin; refine wp_app1 elRow rfl _ _ rfl w7.heap.size u9 us rfl (HU.out.alloc _) _ (.int .u8 (x.toNat : Int)) rfl ?c1 rfl ?c2 ?c3 ?_)
                  case c1 => first | exact World.cell?_alloc_new _ _ _ _ | simp [go_sem]
                  case c2 => have := HL3.out; omega
                  case c3 => first | omega | (simp; omega)
                  intro v' w9 hown hchg
                  have hpush : Hid (OwnSeq w7.heap.size 5 IsByte w9 v' (((List.range k).map fun i => LA.at_ (LA.dn (wideV m v) N2).1 i m.length) ++ [x])) := OwnSeq.push (R := IsByte) HL2.out H3.out hown (fun _ _ _ x => x) rfl
                  have hk9 : Hid (Keeps w7 w9) := ((hKx.out.chg.trans ((Chg.refl (fun b => w7.heap.size ≤ b) wr).alloc _)).trans (hchg.mono fun b _ hb => (own_block HU.out b hb).1)).keeps fun b hb h => by omega
                  clear hown hchg
                  go_wp2
                  exact ⟨⟨k + 1, by omega, by go_num, by rw [HPE.out]; exact hpush, hk9⟩, by simp [intOf]; omega⟩
                · obtain rfl : k = m.length := by omega
                  have HRO : Hid (RowIn (w.heap.size ≤ ·) wr.heap u9 (solveOf m v)) := by
                    show RowIn _ _ _ _
                    rw [HTO.out]
                    have h7 := HK7.out.size
                    exact SeqIn.mono (hO.out.seq (by simp; omega)) (fun b hb => Nat.le_trans h7 hb) fun _ _ x => x
                  have HKE : Hid (Keeps w wr) := HK7.out.call hKx.out (Nat.le_refl _)
                  go_wp2
                  go_ret2
                  rw [e.out]
                  exact ⟨_, rfl, HRO.out, HKE.out⟩
      · have e : Hid (solveM m v = ([], 4)) := by show _ = _; unfold solveM; rw [decide_eq_false hvl, Bool.and_false]; rfl
        have hne2 : ((v.length : Int) != (m.length : Int)) = true := by rw [bne_iff_ne]; omega
        clear hvl
        go_enter Try.func45, Try.ntmps45
        go_wp2_with fail
        refine Calls.mono (smay_is _ m _ HA.out _ MA.out) ?_
        rintro e w1 ⟨rfl, hk⟩
        have HA := Lib.hid (HA.out.keeps hk)
        obtain ⟨p0, q0, d0⟩ := row0y HA.out a1
        change w1.cell? _ = some (.slice p0 (colsN m) q0) at d0
        go_wp2
        go_ret2
        rw [e.out]
        exact GiveRow.err hk
    · have e : Hid (solveM m v = ([], 4)) := by show _ = _; unfold solveM; rw [MA.out, decide_eq_false hsq]; rfl
      have hne : ((m.length : Int) != (colsN m : Int)) = true := by rw [bne_iff_ne]; omega
      clear hR hm hsq
      go_enter Try.func45, Try.ntmps45
      go_wp2_with fail
      refine Calls.mono (smay_is _ m _ HA.out _ MA.out) ?_
      rintro e w1 ⟨rfl, hk⟩
      have HA := Lib.hid (HA.out.keeps hk)
      obtain ⟨p0, q0, d0⟩ := row0y HA.out a1
      change w1.cell? _ = some (.slice p0 (colsN m) q0) at d0
      go_wp2
      go_ret2
      rw [e.out]
      exact GiveRow.err hk
end Go.Proofs.Ytojdodbedemkoaa
