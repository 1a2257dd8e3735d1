/- The walks of the reference's step, May, dir, Size, Kids; lists of files compared. -/
import Derived.Test.YtdpfanifagfciaaDoorTreeR
namespace Go.Proofs.YtdpfanifagfciaaDoor
open Go.RowKit
open Op (bytesLess)
attribute [local go_sem ↓] Go.wp_at_zero Go.wp_at_succ
set_option maxRecDepth 100000 in
set_option maxHeartbeats 4000000 in
theorem rstep_any (s : ByteArray) (w : World) (hz : s.size ≤ 1000000) : Calls Tryd.prog 64 #[.string s] w fun e w' => e = .returned (.bool (stepP s.data.toList)) ∧ w = w' := by
  rw [← step_eq]
  have HS : Hid (stepB s = if (s.toList == []) || decide (32 < s.size) || (s.toList == [46]) || (s.toList == [46, 46]) then false else !(s.data.toList.any oddB)) := rfl
  generalize stepB s = b at *
  go_enter Tryd.func64, Tryd.ntmps64
  cases h1 : (s.toList == []) with
  | true =>
    have HE : Hid (b = false) := by show _ = _; rw [HS.out, h1]; rfl
    go_wp2
    go_ret
    exact ⟨by rw [HE.out]; rfl, rfl⟩
  | false =>
    by_cases h2 : 32 < s.size
    · have HE : Hid (b = false) := by show _ = _; rw [HS.out, h1, decide_eq_true h2]; rfl
      have h64 : decide ((32 : Int) < (s.size : Int)) = true := decide_eq_true (by omega)
      go_wp2
      go_ret
      exact ⟨by rw [HE.out]; rfl, rfl⟩
    · have h64 : decide ((32 : Int) < (s.size : Int)) = false := decide_eq_false (by omega)
      cases h3 : (s.toList == [46]) with
      | true =>
        have HE : Hid (b = false) := by show _ = _; rw [HS.out, h1, decide_eq_false h2, h3]; rfl
        go_wp2
        go_ret
        exact ⟨by rw [HE.out]; rfl, rfl⟩
      | false =>
        cases h4 : (s.toList == [46, 46]) with
        | true =>
          have HE : Hid (b = false) := by show _ = _; rw [HS.out, h1, decide_eq_false h2, h3, h4]; rfl
          go_wp2
          go_ret
          exact ⟨by rw [HE.out]; rfl, rfl⟩
        | false =>
          have HE : Hid (b = !(s.data.toList.any oddB)) := by show _ = _; rw [HS.out, h1, decide_eq_false h2, h3, h4]; rfl
          have HDS := Lib.hid (data_size s)
          clear HS
          go_wp2_with fail
          go_loopw [3] (fun i wr => ∃ k : Nat, k ≤ s.size ∧ i = .int .i64 k ∧ Hid (∀ j (hj : j < s.data.toList.length), j < k → oddB s.data.toList[j] = false) ∧ w = wr) (fun i _ => s.size - (intOf i).toNat)
          case atStart => exact ⟨0, by omega, rfl, fun j _ h => absurd h (by omega), rfl⟩
          case round =>
            obtain ⟨k, hk, rfl, hN, rfl⟩ := hrel
            by_cases hlt : k < s.size
            · have hlt64 : (k : Int) < (s.size : Int) := by omega
              have hk0 : (0 : Int) ≤ (k : Int) := by omega
              have hkl : k < s.data.toList.length := by have := HDS.out; omega
              have hr := run_byT s k hlt
              have hb := byT_at hkl
              have hod : oddB s.data.toList[k] = (decide (byT s.data.toList k ≤ 32) || decide (126 < byT s.data.toList k)) := by rw [hb]; rfl
              have HY : Hid (oddB s.data.toList[k] = true → b = false) := fun e => by
                rw [HE.out, List.any_eq_true.2 ⟨_, List.getElem_mem hkl, e⟩]; rfl
              have HN2 : Hid (oddB s.data.toList[k] = false → ∀ j (hj : j < s.data.toList.length), j < k + 1 → oddB s.data.toList[j] = false) := fun e j hj h => by
                by_cases e2 : j = k
                · subst e2; exact e
                · exact hN.out j hj (by omega)
              have HOD := Lib.hid hod
              clear hb hod
              generalize byT s.data.toList k = x at *
              by_cases h5 : x ≤ 32
              · have HF := Lib.hid (HY.out (by rw [HOD.out, decide_eq_true h5]; rfl))
                have q1 : decide ((x : Int) < 33) = true := decide_eq_true (by omega)
                have q2 : (x : Int) < 33 := by omega
                clear h5
                go_wp2_with fail
                go_ret
                exact ⟨by rw [HF.out]; rfl, rfl⟩
              · have q1 : decide ((x : Int) < 33) = false := decide_eq_false (by omega)
                have q2 : ¬ (x : Int) < 33 := by omega
                by_cases h6 : 126 < x
                · have HF := Lib.hid (HY.out (by rw [HOD.out, decide_eq_true h6]; simp))
                  have q3 : decide ((126 : Int) < (x : Int)) = true := decide_eq_true (by omega)
                  clear h5 h6
                  go_wp2_with fail
                  go_ret
                  exact ⟨by rw [HF.out]; rfl, rfl⟩
                · have HN3 := Lib.hid (HN2.out (by rw [HOD.out, decide_eq_false h5, decide_eq_false h6]; rfl))
                  have q3 : decide ((126 : Int) < (x : Int)) = false := decide_eq_false (by omega)
                  clear h5 h6
                  go_wp2_with fail
                  exact ⟨⟨k + 1, by omega, by go_num, HN3, by first | rfl | trivial⟩, by simp [intOf]; omega⟩
            · obtain rfl : k = s.size := by omega
              have HF : Hid (b = true) := by
                show _ = _
                rw [HE.out, List.any_eq_false.2 fun x hx => ?_]
                · rfl
                · obtain ⟨j, hj, rfl⟩ := List.getElem_of_mem hx
                  rw [hN.out j hj (by have := HDS.out; omega)]; simp
              go_wp2_with fail
              go_ret
              exact ⟨by rw [HF.out]; rfl, rfl⟩
theorem mayR_eq (p : ByteArray) : mayPath p.data.toList = (((stepsT p).all fun x => stepP x.data.toList) && (decide (0 < (stepsT p).length) && decide (p.size ≤ 96))) := by
  by_cases h : p.size = 0
  · rw [empty_of h]; rfl
  · have h1 : 0 < (splitP p.data.toList).length := List.length_pos_iff.2 (splitP_ne _)
    unfold mayPath stepsT
    rw [if_neg h, List.length_map, decide_eq_true h1, data_size, List.all_map, Bool.true_and, Bool.and_comm]
    congr 2
set_option maxRecDepth 100000 in
set_option maxHeartbeats 4000000 in
theorem rmay_any (p : ByteArray) (w : World) (hs : p.size ≤ 1000000) : Calls Tryd.prog 38 #[.string p] w fun e w' => e = .returned (.bool (mayPath p.data.toList)) ∧ Keeps w w' := by
  have HM := Lib.hid (mayR_eq p)
  have HSL : Hid ((stepsT p).length ≤ 1000001) := by
    show _ ≤ _
    have := split_len p.data.toList
    rw [data_size] at this
    unfold stepsT; split
    · simp
    · rw [List.length_map]; omega
  have HSZ : Hid (∀ x ∈ stepsT p, x.size ≤ 1000000) := fun x hx => by
    unfold stepsT at hx
    split at hx
    · cases hx
    · obtain ⟨s, hs2, rfl⟩ := List.mem_map.1 hx
      have := split_piece2 _ _ hs2
      rw [data_size] at this
      rw [strB_size]; omega
  have HC := Lib.hid (fun wx => rsteps_any p wx hs)
  generalize mayPath p.data.toList = b at *
  generalize stepsT p = S at *
  go_enter Tryd.func38, Tryd.ntmps38
  go_wp2_with fail
  refine Calls.mono (HC.out _) ?_
  rintro e w1 ⟨v1, rfl, hs1, hk1⟩
  have HS1 := Lib.hid hs1.at_
  obtain ⟨p1, q1, rfl⟩ := seq_shape hs1.at_
  have HK1 := Lib.hid hk1
  clear hs1 hk1 HC
  have hsl := HSL.out
  go_wp2_with fail
  go_loopw [4] (fun i wr => ∃ k : Nat, k ≤ S.length ∧ i = .int .i64 k ∧ Hid (∀ j, j < k → stepP (tAt S j).data.toList = true) ∧ w1 = wr) (fun i _ => S.length - (intOf i).toNat)
  case atStart => exact ⟨0, by omega, rfl, fun j h => absurd h (by omega), rfl⟩
  case round =>
    obtain ⟨k, hk, rfl, hN, rfl⟩ := hrel
    by_cases hlt : k < S.length
    · have hlt64 : (k : Int) < (S.length : Int) := by omega
      have hk0 : (0 : Int) ≤ (k : Int) := by omega
      obtain ⟨b1, o1, rfl, d0⟩ := text_cell HS1.out hlt
      have HST := Lib.hid (fun wx => rstep_any (tAt S k) wx (by rw [tAt_eq hlt]; exact HSZ.out _ (List.getElem_mem hlt)))
      have HN2 : Hid (stepP (tAt S k).data.toList = true → ∀ j, j < k + 1 → stepP (tAt S j).data.toList = true) := fun e j hj => by
        by_cases e2 : j = k
        · subst e2; exact e
        · exact hN.out j (by omega)
      have HF : Hid (stepP (tAt S k).data.toList = false → b = false) := fun e => by
        rw [HM.out, List.all_eq_false.2 ⟨tAt S k, by rw [tAt_eq hlt]; exact List.getElem_mem hlt, by rw [e]; simp⟩]; rfl
      generalize stepP (tAt S k).data.toList = y at *
      generalize tAt S k = x at *
      go_wp2_with fail
      refine Calls.mono (HST.out _) ?_
      rintro e w2 ⟨rfl, rfl⟩
      cases y with
      | false =>
        have HF2 := Lib.hid (HF.out rfl)
        go_wp2_with fail
        go_ret
        exact ⟨by rw [HF2.out]; rfl, HK1.out⟩
      | true =>
        have HN3 := Lib.hid (HN2.out rfl)
        go_wp2_with fail
        exact ⟨⟨k + 1, by omega, by go_num, HN3, by first | rfl | trivial⟩, by simp [intOf]; omega⟩
    · obtain rfl : k = S.length := by omega
      have HA : Hid (b = (decide (0 < S.length) && decide (p.size ≤ 96))) := by
        show _ = _
        rw [HM.out, List.all_eq_true.2 fun x hx => ?_, Bool.true_and]
        obtain ⟨j, hj, rfl⟩ := List.getElem_of_mem hx
        rw [← tAt_eq hj]; exact hN.out j hj
      clear HM hN
      by_cases h0 : 0 < S.length
      · have q1 : decide ((0 : Int) < (S.length : Int)) = true := decide_eq_true (by omega)
        have q2 : decide (0 < S.length) = true := decide_eq_true h0
        by_cases h1 : p.size ≤ 96
        · have q3 : decide ((p.size : Int) ≤ 96) = true := decide_eq_true (by omega)
          have HB : Hid (b = true) := by show _ = _; rw [HA.out, q2, decide_eq_true h1]; rfl
          go_wp2_with fail
          go_ret
          exact ⟨by rw [HB.out]; rfl, HK1.out⟩
        · have q3 : decide ((p.size : Int) ≤ 96) = false := decide_eq_false (by omega)
          have HB : Hid (b = false) := by show _ = _; rw [HA.out, q2, decide_eq_false h1]; rfl
          go_wp2_with fail
          go_ret
          exact ⟨by rw [HB.out]; rfl, HK1.out⟩
      · have q1 : decide ((0 : Int) < (S.length : Int)) = false := decide_eq_false (by omega)
        have q2 : decide (0 < S.length) = false := decide_eq_false h0
        have HB : Hid (b = false) := by show _ = _; rw [HA.out, q2]; rfl
        go_wp2_with fail
        go_ret
        exact ⟨by rw [HB.out]; rfl, HK1.out⟩
set_option maxRecDepth 100000 in
set_option maxHeartbeats 4000000 in
theorem rdir_any (v : Value) (l : List FileR) (u : ByteArray) (w : World) (h : FilesAt w.heap v l) : Calls Tryd.prog 65 #[v, .string u] w fun e w' => e = .returned (.bool (dirIn l u)) ∧ w = w' := by
  obtain ⟨p, q, rfl⟩ := rec_shape h
  have hl63 : l.length ≤ 9223372036854775807 := let ⟨_, _, _, x, _⟩ := h; x
  have H := Lib.hid h
  clear h
  go_enter Tryd.func65, Tryd.ntmps65
  go_wp2_with fail
  go_loopw [5] (fun i wr => ∃ k : Nat, k ≤ l.length ∧ i = .int .i64 k ∧ Hid (∀ j, j < k → (((fAt l j).p.toList == u.toList) && (fAt l j).d) = false) ∧ w = wr) (fun i _ => l.length - (intOf i).toNat)
  case atStart => exact ⟨0, by omega, rfl, fun j h => absurd h (by omega), rfl⟩
  case round =>
    obtain ⟨k, hk, rfl, hN, rfl⟩ := hrel
    by_cases hlt : k < l.length
    · have hlt64 : (k : Int) < (l.length : Int) := by omega
      have hk0 : (0 : Int) ≤ (k : Int) := by omega
      obtain ⟨b1, o1, rfl, _, d0, d1, _⟩ := file_cell H.out hlt
      have HN2 : Hid ((((fAt l k).p.toList == u.toList) && (fAt l k).d) = false → ∀ j, j < k + 1 → (((fAt l j).p.toList == u.toList) && (fAt l j).d) = false) := fun e j hj => by
        by_cases e2 : j = k
        · subst e2; exact e
        · exact hN.out j (by omega)
      have HY : Hid ((((fAt l k).p.toList == u.toList) && (fAt l k).d) = true → dirIn l u = true) := fun e => by
        rw [Bool.and_eq_true, txt_eq, decide_eq_true_eq] at e
        exact dirIn_iff.2 ⟨_, fAt_mem hlt, e.1, e.2⟩
      generalize (fAt l k).p = P at *
      generalize (fAt l k).d = D at *
      cases hc : (P.toList == u.toList) with
      | false =>
        have HN3 := Lib.hid (HN2.out (by rw [hc]; rfl))
        go_wp2_with fail
        exact ⟨⟨k + 1, by omega, by go_num, HN3, by first | rfl | trivial⟩, by simp [intOf]; omega⟩
      | true =>
        cases D with
        | false =>
          have HN3 := Lib.hid (HN2.out (by rw [hc]; rfl))
          go_wp2_with fail
          exact ⟨⟨k + 1, by omega, by go_num, HN3, by first | rfl | trivial⟩, by simp [intOf]; omega⟩
        | true =>
          have HR := Lib.hid (HY.out (by rw [hc]; rfl))
          go_wp2_with fail
          go_ret
          exact ⟨by rw [HR.out]; rfl, rfl⟩
    · obtain rfl : k = l.length := by omega
      have HR : Hid (dirIn l u = false) := by
        show _ = _
        cases hd : dirIn l u with
        | false => rfl
        | true =>
          obtain ⟨x, hx, e1, e2⟩ := dirIn_iff.1 hd
          obtain ⟨i, hi, rfl⟩ := mem_fAt hx
          have := hN.out i hi
          rw [txt_eq, decide_eq_true e1, e2] at this; cases this
      go_wp2_with fail
      go_ret
      exact ⟨by rw [HR.out]; rfl, rfl⟩
set_option maxRecDepth 100000 in
set_option maxHeartbeats 4000000 in
theorem rsize_any (v : Value) (l : List FileR) (w : World) (h : FilesAt w.heap v l) (hb : sizeF l ≤ 1000000000) : Calls Tryd.prog 42 #[v] w fun e w' => e = .returned (.int .i64 (sizeF l : Int)) ∧ w = w' := by
  obtain ⟨p, q, rfl⟩ := rec_shape h
  have hl63 : l.length ≤ 9223372036854775807 := let ⟨_, _, _, x, _⟩ := h; x
  have H := Lib.hid h
  have HB := Lib.hid hb
  clear h hb
  go_enter Tryd.func42, Tryd.ntmps42
  go_wp2_with fail
  go_loopw [3, 4] (fun t i wr => ∃ k : Nat, k ≤ l.length ∧ i = .int .i64 k ∧ t = .int .i64 (sizeF (l.take k) : Int) ∧ w = wr) (fun _ i _ => l.length - (intOf i).toNat)
  case atStart => exact ⟨0, by omega, rfl, rfl, rfl⟩
  case round =>
    obtain ⟨k, hk, rfl, rfl, rfl⟩ := hrel
    by_cases hlt : k < l.length
    · have hlt64 : (k : Int) < (l.length : Int) := by omega
      have hk0 : (0 : Int) ≤ (k : Int) := by omega
      obtain ⟨b, off, rfl, _, d0, d1, d2⟩ := file_cell H.out hlt
      have HX := Lib.hid (sizeF_take hlt)
      have h1 := sizeF_le l (k + 1)
      have h2 := HB.out
      rw [sizeF_take hlt] at h1
      generalize (fAt l k).t = T at *
      generalize sizeF (l.take k) = t at *
      have hle : t + T.size ≤ 1000000000 := by omega
      clear h1 h2
      go_wp2_with fail
      exact ⟨⟨k + 1, by omega, by go_num, by rw [HX.out]; go_num, by first | rfl | trivial⟩, by simp [intOf]; omega⟩
    · obtain rfl : k = l.length := by omega
      go_wp2_with fail
      go_ret
      refine ⟨?_, rfl⟩
      show Ending.returned (.int .i64 (sizeF (l.take l.length) : Int)) = _
      rw [List.take_length]
set_option maxRecDepth 100000 in
set_option maxHeartbeats 8000000 in
theorem rkids_any (v : Value) (l : List FileR) (dir : ByteArray) (w : World) (h : FilesAt w.heap v l) (hs : SmallF l) (hl : l.length ≤ 100000) : Calls Tryd.prog 36 #[v, .string dir] w (GiveInts w (kidsF l dir l.length)) := by
  obtain ⟨p, q, rfl⟩ := rec_shape h
  have H := Lib.hid h
  have HS := Lib.hid hs
  clear h hs
  go_enter Tryd.func36, Tryd.ntmps36
  go_wp2_with fail
  go_loopw [5, 6] (fun t i wr => ∃ k : Nat, k ≤ l.length ∧ i = .int .i64 k ∧ Hid (OwnSeq w.heap.size 3 IsInt wr t (kidsF l dir k)) ∧ Hid (Keeps w wr)) (fun _ i _ => l.length - (intOf i).toNat)
  case atStart => exact ⟨0, by omega, rfl, by exact OwnSeq.nil _ _ _ _, keeps_refl w⟩
  case round =>
    obtain ⟨k, hk, rfl, hR, hK⟩ := hrel
    by_cases hlt : k < l.length
    · have hlt64 : (k : Int) < (l.length : Int) := by omega
      have hk0 : (0 : Int) ≤ (k : Int) := by omega
      obtain ⟨b, off, rfl, _, d0, d1, d2⟩ := file_cell (RecAt.keeps H.out hK.out) hlt
      obtain ⟨us, hu1, hu2, hu3⟩ := hR.out
      have hul : us.length ≤ k := by rw [hu2]; exact kidsF_len _ _ _
      obtain ⟨pv, qv, rfl⟩ := own_slice hu1
      have HU := Lib.hid hu1
      have HL2 := Lib.hid hu2
      have HL3 := Lib.hid hul
      have H3 := Lib.hid hu3
      have HX := Lib.hid (kidsF_succ l dir k)
      have HPS := Lib.hid (HS.out k hlt).1
      have HAB := Lib.hid (fun wx => rabove_any (fAt l k).p wx (by have := HPS.out; omega))
      have HUE : Hid (upIs (fAt l k).p = false → (upT (fAt l k).p).size = 0) := fun e => by
        cases hu : upP (fAt l k).p.data.toList with
        | none => rw [(upT_none hu).1]; rfl
        | some u => rw [(upT_some hu).2] at e; cases e
      have HKD : Hid (kidB dir (fAt l k) = (((upT (fAt l k).p).toList == dir.toList) && (upIs (fAt l k).p == decide (dir.size ≠ 0)))) := by
        show _ = _; unfold kidB; rw [txt_eq]
      have hsz := hK.out.size
      have HR2 : Hid (OwnSeq w.heap.size 3 IsInt wr (.slice pv us.length qv) (kidsF l dir k)) := ⟨us, HU.out, HL2.out, H3.out⟩
      clear hu1 hu2 hul hu3 hR
      generalize kidB dir (fAt l k) = kb at *
      generalize upT (fAt l k).p = U at *
      generalize upIs (fAt l k).p = I at *
      generalize (fAt l k).p = P at *
      go_wp2_with fail
      refine Calls.mono (HAB.out _) ?_
      rintro e w2 ⟨rfl, rfl⟩
      by_cases hd : dir.size = 0
      · obtain ⟨g1, g2⟩ := empty_facts hd
        cases I with
        | true =>
          have HX2 : Hid (kidsF l dir (k + 1) = kidsF l dir k) := by show _ = _; rw [HX.out, HKD.out, decide_eq_false (by omega)]; simp
          clear HX HKD hd
          go_wp2_with fail
          exact ⟨⟨k + 1, by omega, by go_num, by rw [HX2.out]; exact HR2, hK⟩, by simp [intOf]; omega⟩
        | false =>
          have hc : (U.toList == dir.toList) = true := by
            rw [empty_of (HUE.out rfl), empty_of hd]; simp
          have HX2 : Hid (kidsF l dir (k + 1) = kidsF l dir k ++ [(k : Int)]) := by show _ = _; rw [HX.out, HKD.out, hc, decide_eq_false (by omega)]; rfl
          clear HX HKD hd
          go_wp2_with (at_builtin; refine wp_app1 elInt rfl (.tmp 42) (.tmp 44) rfl w.heap.size (.slice pv us.length qv) us rfl (HU.out.alloc _) _ (.int .i64 (k : Int)) rfl (World.cell?_alloc_new _ _ _ _) rfl (by have := HL3.out; omega) (by simp; omega) ?_; intro v' w6 hown hchg; have HP6 := Lib.hid (OwnSeq.push (R := IsInt) (R' := IsInt) (l := kidsF l dir k) HL2.out H3.out hown (fun _ _ _ x => x) rfl); have HK6 : Hid (Keeps w w6) := hK.out.then (chg_kept (B := w.heap.size) (Chg.trans (Kept.any (kal _ _)) hchg) (fun q _ e => (own_block HU.out q e).1) hK.out.size) (Nat.le_refl _); clear hown hchg)
          exact ⟨⟨k + 1, by omega, by go_num, by rw [HX2.out]; exact HP6, HK6⟩, by simp [intOf]; omega⟩
      · obtain ⟨g1, g2⟩ := full_facts hd
        cases I with
        | false =>
          have HX2 : Hid (kidsF l dir (k + 1) = kidsF l dir k) := by show _ = _; rw [HX.out, HKD.out, decide_eq_true (by omega)]; simp
          clear HX HKD hd
          go_wp2_with fail
          exact ⟨⟨k + 1, by omega, by go_num, by rw [HX2.out]; exact HR2, hK⟩, by simp [intOf]; omega⟩
        | true =>
          cases hc : (U.toList == dir.toList) with
          | false =>
            have HX2 : Hid (kidsF l dir (k + 1) = kidsF l dir k) := by show _ = _; rw [HX.out, HKD.out, hc]; rfl
            clear HX HKD hd
            go_wp2_with fail
            exact ⟨⟨k + 1, by omega, by go_num, by rw [HX2.out]; exact HR2, hK⟩, by simp [intOf]; omega⟩
          | true =>
            have HX2 : Hid (kidsF l dir (k + 1) = kidsF l dir k ++ [(k : Int)]) := by show _ = _; rw [HX.out, HKD.out, hc, decide_eq_true (by omega)]; rfl
            clear HX HKD hd
            go_wp2_with (at_builtin; refine wp_app1 elInt rfl (.tmp 42) (.tmp 44) rfl w.heap.size (.slice pv us.length qv) us rfl (HU.out.alloc _) _ (.int .i64 (k : Int)) rfl (World.cell?_alloc_new _ _ _ _) rfl (by have := HL3.out; omega) (by simp; omega) ?_; intro v' w6 hown hchg; have HP6 := Lib.hid (OwnSeq.push (R := IsInt) (R' := IsInt) (l := kidsF l dir k) HL2.out H3.out hown (fun _ _ _ x => x) rfl); have HK6 : Hid (Keeps w w6) := hK.out.then (chg_kept (B := w.heap.size) (Chg.trans (Kept.any (kal _ _)) hchg) (fun q _ e => (own_block HU.out q e).1) hK.out.size) (Nat.le_refl _); clear hown hchg)
            exact ⟨⟨k + 1, by omega, by go_num, by rw [HX2.out]; exact HP6, HK6⟩, by simp [intOf]; omega⟩
    · obtain rfl : k = l.length := by omega
      go_wp2_with fail
      go_ret
      exact ⟨_, rfl, hR.out.seq (by have := kidsF_len l dir l.length; omega), hK.out⟩
/-- Are two files the same? -/
def fEq (x y : FileR) : Bool := (x.p.toList == y.p.toList) && ((x.d == y.d) && (x.t.toList == y.t.toList))
theorem fEq_self (x : FileR) : fEq x x = true := by unfold fEq; simp
def sameTo (l m : List FileR) (k : Nat) : Bool := (List.range k).all fun i => fEq (fAt l i) (fAt m i)
def sameF (l m : List FileR) : Bool := decide (l.length = m.length) && sameTo l m l.length
theorem sameF_self (l : List FileR) : sameF l l = true := by unfold sameF sameTo; simp [fEq_self]
set_option maxRecDepth 100000 in
theorem run_fNe (x y : FileR) (w : World) : (binOp .neq 47 (.agg #[.string x.p, .bool x.d, .string x.t]) (.agg #[.string y.p, .bool y.d, .string y.t])).run Tryd.prog w = .ok (.bool (!fEq x y)) w := by
  unfold fEq
  cases h1 : (x.p.toList == y.p.toList) with
  | false => go_simp
  | true =>
  cases h2 : (x.d == y.d) with
  | false => go_simp
  | true =>
  cases h3 : (x.t.toList == y.t.toList) with
  | false => go_simp
  | true => go_simp
end Go.Proofs.YtdpfanifagfciaaDoor
