/- The walk of the law PathUp. -/
import Derived.Test.YtdpfanifagfciaaDoorAwk
import Derived.BigQuiet
namespace Go.Proofs.YtdpfanifagfciaaDoor
open Go.RowKit
attribute [local go_sem ↓] Go.wp_at_zero Go.wp_at_succ
theorem text_cell {w : World} {p : Option Addr} {n c : Nat} {l : List ByteArray} (s : SeqAt IsText w.heap (.slice p n c) l) {i : Nat} (hi : i < l.length) : ∃ b off, p = some ⟨b, off, none⟩ ∧ w.cell? ⟨b, off + i, none⟩ = some (.string (tAt l i)) := by
  obtain ⟨b, off, c', u, e, c1, r1⟩ := seq_cell s hi
  injection e with e1 _ _
  unfold IsText at r1
  exact ⟨b, off, e1, by rw [c1, r1, tAt_eq hi]⟩
theorem tAt_app {T : List ByteArray} {x : ByteArray} {i : Nat} (h : i < T.length) : tAt (T ++ [x]) i = tAt T i := by
  unfold tAt; rw [List.getD_eq_getElem?_getD, List.getD_eq_getElem?_getD, List.getElem?_append_left h]
theorem upT_size (p : ByteArray) : (upT p).size ≤ p.size := by
  cases hu : upP p.data.toList with
  | none => rw [(upT_none hu).1]; exact Nat.zero_le _
  | some u =>
    obtain ⟨s, e, _⟩ := upP_some hu
    have h1 := congrArg List.length e
    rw [data_size, List.length_append] at h1
    rw [(upT_some hu).1, strB_size]; omega
theorem mayPath_upT {p : ByteArray} (h : mayPath p.data.toList = true) (hi : upIs p = true) : mayPath (upT p).data.toList = true := by
  cases hu : upP p.data.toList with
  | none => rw [(upT_none hu).2] at hi; cases hi
  | some u =>
    rw [(upT_some hu).1]
    exact mayPath_up h hu
set_option maxRecDepth 100000 in
set_option maxHeartbeats 8000000 in
theorem pathup_any (p s : ByteArray) (w : World) : Calls Tryd.prog 8 #[.string p, .string s] w fun e w' => e = .returned (.bool true) ∧ Keeps w w' := by
  by_cases hp : 3000 < p.size
  · have g1 : decide ((3000 : Int) < (p.size : Int)) = true := decide_eq_true (by omega)
    go_enter Tryd.func8, Tryd.ntmps8
    go_wp2_with fail
    refine Calls.mono (awake_any _) ?_
    rintro e w1 ⟨rfl, hk⟩
    go_wp2_with fail
    go_ret
    exact ⟨rfl, hk⟩
  have g1 : decide ((3000 : Int) < (p.size : Int)) = false := decide_eq_false (by omega)
  by_cases hs : 3000 < s.size
  · have g2 : decide ((3000 : Int) < (s.size : Int)) = true := decide_eq_true (by omega)
    go_enter Tryd.func8, Tryd.ntmps8
    go_wp2_with fail
    refine Calls.mono (awake_any _) ?_
    rintro e w1 ⟨rfl, hk⟩
    go_wp2_with fail
    go_ret
    exact ⟨rfl, hk⟩
  have g2 : decide ((3000 : Int) < (s.size : Int)) = false := decide_eq_false (by omega)
  have hps : p.size ≤ 3000 := by omega
  have hss : s.size ≤ 3000 := by omega
  clear hp hs
  go_enter Tryd.func8, Tryd.ntmps8
  go_wp2_with fail
  refine Calls.mono (awake_any _) ?_
  rintro e w1 ⟨rfl, hk1⟩
  have HK1 := Lib.hid hk1
  clear hk1 g1 g2
  go_wp2_with fail
  refine Calls.mono (steps_any p _ (by omega)) ?_
  rintro e w2 ⟨v2, rfl, hs2, hk2⟩
  have HK2 := Lib.hid (HK1.out.trans hk2)
  have HS2 := Lib.hid hs2.at_
  obtain ⟨p2, q2, rfl⟩ := seq_shape hs2.at_
  have HSL : Hid ((stepsT p).length ≤ 3001) := by
    show _ ≤ _
    have := split_len p.data.toList
    rw [data_size] at this
    unfold stepsT; split
    · simp
    · rw [List.length_map]; omega
  clear hk2 hs2
  go_wp2_with fail
  refine Calls.mono (above_any p _ (by omega)) ?_
  rintro e w3 ⟨rfl, rfl⟩
  go_wp2_with fail
  refine Calls.mono (may_any p _) ?_
  rintro e w4 ⟨rfl, hk4⟩
  have HKX := Lib.hid (HK2.out.trans hk4)
  have HS4 := Lib.hid (SeqAt.keeps HS2.out hk4)
  clear hk4 HS2 HK2 HK1
  cases hm : mayPath p.data.toList with
  | false =>
    have HP := Lib.hid hm
    clear hm HS4 HSL
    go_wp2_with fail
    refine Calls.mono (may_any s _) ?_
    rintro e w6 ⟨rfl, hk6⟩
    have HK6 := Lib.hid (HKX.out.trans hk6)
    clear hk6
    cases hms : mayPath s.data.toList with
    | false =>
      go_wp2_with fail
      refine Calls.mono (may_any p _) ?_
      rintro e w7 ⟨rfl, hk7⟩
      have HK7 := Lib.hid (HK6.out.trans hk7)
      rw [HP.out]
      clear hk7 hms
      go_wp2_with fail
      go_ret
      exact ⟨rfl, HK7.out⟩
    | true =>
      have HMS := Lib.hid hms
      clear hms
      go_wp2_with fail
      refine Calls.mono (steps_any s _ (by omega)) ?_
      rintro e w7 ⟨v7, rfl, hs7, hk7⟩
      obtain ⟨p7, q7, rfl⟩ := seq_shape hs7.at_
      have HK7 := Lib.hid (HK6.out.trans hk7)
      clear hk7 hs7
      generalize (stepsT s).length = n7
      by_cases h1 : n7 = 1
      · subst h1
        go_wp2_with fail
        refine Calls.mono (may_any p _) ?_
        rintro e w8 ⟨rfl, hk8⟩
        have HK8 := Lib.hid (HK7.out.trans hk8)
        rw [HP.out]
        clear hk8
        go_wp2_with fail
        go_ret
        exact ⟨rfl, HK8.out⟩
      · have g1 : ((n7 : Int) == 1) = false := beq_false_of_ne (by omega)
        have g2 : decide ((n7 : Int) = 1) = false := decide_eq_false (by omega)
        clear h1
        go_wp2_with fail
        refine Calls.mono (may_any p _) ?_
        rintro e w8 ⟨rfl, hk8⟩
        have HK8 := Lib.hid (HK7.out.trans hk8)
        rw [HP.out]
        clear hk8
        go_wp2_with fail
        go_ret
        exact ⟨rfl, HK8.out⟩
  | true =>
    have HP := Lib.hid hm
    have HZ := Lib.hid (may_size hm)
    have HI := Lib.hid (steps_many HZ.out)
    clear hm
    cases hi : upIs p with
    | false =>
      have HUE : Hid (upT p = ⟨#[]⟩) := by
        show _ = _
        cases hu : upP p.data.toList with
        | none => exact (upT_none hu).1
        | some u => rw [(upT_some hu).2] at hi; cases hi
      have g1 : decide ((1 : Int) < ((stepsT p).length : Int)) = false := by
        have := HI.out
        rw [hi] at this
        exact decide_eq_false fun x => by rw [decide_eq_true (by omega)] at this; cases this
      rw [HUE.out]
      have hsl := HSL.out
      clear hi HUE HI HZ HSL HS4
      generalize (stepsT p).length = n at *
      go_wp2_with fail
      refine Calls.mono (steps_any _ _ (by decide)) ?_
      rintro e w5 ⟨v5, rfl, hs5, hk5⟩
      rw [show stepsT ⟨#[]⟩ = [] from rfl] at hs5
      obtain ⟨p5, q5, e5⟩ := seq_shape hs5.at_
      replace e5 : v5 = .slice p5 0 q5 := e5
      subst e5
      have HKX := Lib.hid (HKX.out.trans hk5)
      clear hs5 hk5
      go_wp2_with fail
      go_loopw [9] (fun i wr => i = .int .i64 0 ∧ Hid (Keeps w wr)) (fun _ _ => 0)
      case atStart => exact ⟨rfl, HKX.out⟩
      case round =>
        obtain ⟨rfl, HKX⟩ := hrel
        go_wp2_with fail
        refine Calls.mono (may_any s _) ?_
        rintro e w6 ⟨rfl, hk6⟩
        have HK6 := Lib.hid (HKX.out.trans hk6)
        clear hk6
        cases hms : mayPath s.data.toList with
        | false =>
          go_wp2_with fail
          refine Calls.mono (may_any p _) ?_
          rintro e w7 ⟨rfl, hk7⟩
          have HK7 := Lib.hid (HK6.out.trans hk7)
          rw [HP.out]
          clear hk7 hms
          go_wp2_with fail
          go_ret
          exact ⟨rfl, HK7.out⟩
        | true =>
          have HMS := Lib.hid hms
          clear hms
          go_wp2_with fail
          refine Calls.mono (steps_any s _ (by omega)) ?_
          rintro e w7 ⟨v7, rfl, hs7, hk7⟩
          obtain ⟨p7, q7, rfl⟩ := seq_shape hs7.at_
          have HK7 := Lib.hid (HK6.out.trans hk7)
          clear hk7 hs7
          generalize (stepsT s).length = n7
          by_cases h1 : n7 = 1
          · subst h1
            go_wp2_with fail
            refine Calls.mono (may_any p _) ?_
            rintro e w8 ⟨rfl, hk8⟩
            have HK8 := Lib.hid (HK7.out.trans hk8)
            rw [HP.out]
            clear hk8
            obtain ⟨PS, hPS⟩ : ∃ x, p ++ (⟨#[47]⟩ : ByteArray) = x := ⟨_, rfl⟩
            obtain ⟨PT, hPT⟩ : ∃ x, PS ++ s = x := ⟨_, rfl⟩
            have hz1 : PS.size = p.size + 1 := by rw [← hPS, ByteArray.size_append]; rfl
            have HM : Hid (mayPath PT.data.toList = decide ((p.size : Int) + 1 + (s.size : Int) ≤ 96)) := by
              show _ = _
              have e1 : PT.data.toList = p.data.toList ++ 47 :: s.data.toList := by rw [← hPT, ← hPS]; simp
              rw [e1, mayPath_more HP.out HMS.out, data_size, data_size]
              apply decide_eq_decide.2; omega
            go_wp2_with fail
            refine Calls.mono (may_any PT _) ?_
            rintro e w9 ⟨rfl, hk9⟩
            have HK9 := Lib.hid (HK8.out.trans hk9)
            rw [HM.out]
            clear hk9 hPS hPT hz1 HM
            by_cases hz : (p.size : Int) + 1 + (s.size : Int) ≤ 96
            · rw [decide_eq_true hz]
              have g := decide_eq_true hz
              go_wp2_with fail
              go_ret
              exact ⟨rfl, HK9.out⟩
            · rw [decide_eq_false hz]
              have g := decide_eq_false hz
              have g2 : (96 : Int) < (p.size : Int) + 1 + (s.size : Int) := by omega
              go_wp2_with fail
              go_ret
              exact ⟨rfl, HK9.out⟩
          · have g1 : ((n7 : Int) == 1) = false := beq_false_of_ne (by omega)
            have g2 : decide ((n7 : Int) = 1) = false := decide_eq_false (by omega)
            clear h1
            go_wp2_with fail
            refine Calls.mono (may_any p _) ?_
            rintro e w8 ⟨rfl, hk8⟩
            have HK8 := Lib.hid (HK7.out.trans hk8)
            rw [HP.out]
            clear hk8
            go_wp2_with fail
            go_ret
            exact ⟨rfl, HK8.out⟩
    | true =>
      obtain ⟨HL1, x, HL2⟩ := steps_last HZ.out hi
      have hmu := mayPath_upT HP.out hi
      rw [if_neg (may_size hmu)] at HL2
      replace HL2 := Lib.hid HL2
      have HMU := Lib.hid hmu
      have hlen : 1 < (stepsT p).length := by have := HI.out; rw [hi] at this; exact of_decide_eq_true this.symm
      have g1 : decide ((1 : Int) < ((stepsT p).length : Int)) = true := decide_eq_true (by omega)
      have hub := upT_size p
      obtain ⟨b2, o2, rfl, d2⟩ := text_cell HS4.out (i := (stepsT p).length - 1) (by omega)
      have hsl := HSL.out
      clear hmu HI hi
      have HL3 : Hid ((stepsT p).length = (stepsT (upT p)).length + 1) := by show _ = _; rw [HL2.out, List.length_append]; rfl
      obtain ⟨US, hUS⟩ : ∃ y, upT p ++ (⟨#[47]⟩ : ByteArray) = y := ⟨_, rfl⟩
      have hUT : US ++ tAt (stepsT p) ((stepsT p).length - 1) = p := by rw [← hUS]; exact HL1
      have hz1 : US.size = (upT p).size + 1 := by rw [← hUS, ByteArray.size_append]; rfl
      have hz2 : US.size + (tAt (stepsT p) ((stepsT p).length - 1)).size = p.size := by
        have := congrArg ByteArray.size hUT
        rwa [ByteArray.size_append] at this
      clear HL1
      generalize tAt (stepsT p) ((stepsT p).length - 1) = X at *
      have HSG : Hid (∃ S, S = stepsT p) := ⟨_, rfl⟩
      generalize hS : stepsT p = S at *
      generalize hT : stepsT (upT p) = T at *
      have HT := Lib.hid hT
      clear hT hS HSG HSL
      generalize upT p = U at *
      have hn1 : (((S.length - 1 : Nat) : Int)) = (S.length : Int) - 1 := by omega
      have hn2 : ((S.length : Int) - 1).toNat = S.length - 1 := by omega
      go_wp2_with fail
      refine Calls.mono (may_any U _) ?_
      rintro e w5 ⟨rfl, hk5⟩
      rw [HMU.out]
      have HKX := Lib.hid (HKX.out.trans hk5)
      have HS5 := Lib.hid (SeqAt.keeps HS4.out hk5)
      replace d2 := keeps_cell hk5 d2
      clear hk5 HS4
      go_wp2_with fail
      refine Calls.mono (steps_any U _ (by omega)) ?_
      rw [HT.out]
      rintro e w5b ⟨v5, rfl, hs5, hk5⟩
      obtain ⟨p5, q5, rfl⟩ := seq_shape hs5.at_
      have HKY := Lib.hid (HKX.out.trans hk5)
      have HS6 := Lib.hid (SeqAt.keeps HS5.out hk5)
      have HT6 := Lib.hid hs5.at_
      clear hs5 hk5 HKX HS5 d2 hUS hUT hz1 hz2 hn1 hn2 HT HMU hub g1
      have hl3 := HL3.out
      go_wp2_with fail
      go_loopw [9] (fun i wr => ∃ k : Nat, k ≤ T.length ∧ i = .int .i64 k ∧ Hid (Keeps w5b wr)) (fun i _ => T.length - (intOf i).toNat)
      case atStart => exact ⟨0, by omega, rfl, keeps_refl _⟩
      case round =>
        obtain ⟨k, hk, rfl, hKz⟩ := hrel
        by_cases hlt : k < T.length
        · have hlt64 : (k : Int) < (T.length : Int) := by omega
          have hlt65 : (k : Int) < (S.length : Int) := by omega
          have hk0 : (0 : Int) ≤ (k : Int) := by omega
          obtain ⟨b5, o5, rfl, d5⟩ := text_cell (SeqAt.keeps HT6.out hKz.out) hlt
          obtain ⟨b6, o6, e6, d6⟩ := text_cell (SeqAt.keeps HS6.out hKz.out) (i := k) (by omega)
          injection e6 with e6
          injection e6 with e7 e8 _
          subst e7 e8
          rw [HL2.out, tAt_app hlt] at d6
          generalize tAt T k = y at *
          go_wp2_with fail
          go_quiet (fail)
          go_wp2_with fail
          exact ⟨⟨k + 1, by omega, by go_num, hKz⟩, by simp [intOf]; omega⟩
        · obtain rfl : k = T.length := by omega
          have HKX := Lib.hid (HKY.out.trans hKz.out)
          have hn3 : ((T.length : Int) == (S.length : Int) - 1) = true := by rw [beq_iff_eq]; omega
          have hn4 : (S.length : Int) - 1 = (T.length : Int) := by omega
          clear HL2 HL3 HT6 HS6
          go_wp2_with fail
          refine Calls.mono (may_any s _) ?_
          rintro e w6 ⟨rfl, hk6⟩
          have HK6 := Lib.hid (HKX.out.trans hk6)
          clear hk6
          cases hms : mayPath s.data.toList with
          | false =>
            go_wp2_with fail
            refine Calls.mono (may_any p _) ?_
            rintro e w7 ⟨rfl, hk7⟩
            have HK7 := Lib.hid (HK6.out.trans hk7)
            rw [HP.out]
            clear hk7 hms
            go_wp2_with fail
            go_ret
            exact ⟨rfl, HK7.out⟩
          | true =>
            have HMS := Lib.hid hms
            clear hms
            go_wp2_with fail
            refine Calls.mono (steps_any s _ (by omega)) ?_
            rintro e w7 ⟨v7, rfl, hs7, hk7⟩
            obtain ⟨p7, q7, rfl⟩ := seq_shape hs7.at_
            have HK7 := Lib.hid (HK6.out.trans hk7)
            clear hk7 hs7
            generalize (stepsT s).length = n7
            by_cases h1 : n7 = 1
            · subst h1
              go_wp2_with fail
              refine Calls.mono (may_any p _) ?_
              rintro e w8 ⟨rfl, hk8⟩
              have HK8 := Lib.hid (HK7.out.trans hk8)
              rw [HP.out]
              clear hk8
              obtain ⟨PS, hPS⟩ : ∃ x, p ++ (⟨#[47]⟩ : ByteArray) = x := ⟨_, rfl⟩
              obtain ⟨PT, hPT⟩ : ∃ x, PS ++ s = x := ⟨_, rfl⟩
              have hz1 : PS.size = p.size + 1 := by rw [← hPS, ByteArray.size_append]; rfl
              have HM : Hid (mayPath PT.data.toList = decide ((p.size : Int) + 1 + (s.size : Int) ≤ 96)) := by
                show _ = _
                have e1 : PT.data.toList = p.data.toList ++ 47 :: s.data.toList := by rw [← hPT, ← hPS]; simp
                rw [e1, mayPath_more HP.out HMS.out, data_size, data_size]
                apply decide_eq_decide.2; omega
              go_wp2_with fail
              refine Calls.mono (may_any PT _) ?_
              rintro e w9 ⟨rfl, hk9⟩
              have HK9 := Lib.hid (HK8.out.trans hk9)
              rw [HM.out]
              clear hk9 hPS hPT hz1 HM
              by_cases hz : (p.size : Int) + 1 + (s.size : Int) ≤ 96
              · rw [decide_eq_true hz]
                have g := decide_eq_true hz
                go_wp2_with fail
                go_ret
                exact ⟨rfl, HK9.out⟩
              · rw [decide_eq_false hz]
                have g := decide_eq_false hz
                have g2 : (96 : Int) < (p.size : Int) + 1 + (s.size : Int) := by omega
                go_wp2_with fail
                go_ret
                exact ⟨rfl, HK9.out⟩
            · have g1 : ((n7 : Int) == 1) = false := beq_false_of_ne (by omega)
              have g2 : decide ((n7 : Int) = 1) = false := decide_eq_false (by omega)
              clear h1
              go_wp2_with fail
              refine Calls.mono (may_any p _) ?_
              rintro e w8 ⟨rfl, hk8⟩
              have HK8 := Lib.hid (HK7.out.trans hk8)
              rw [HP.out]
              clear hk8
              go_wp2_with fail
              go_ret
              exact ⟨rfl, HK8.out⟩
end Go.Proofs.YtdpfanifagfciaaDoor
