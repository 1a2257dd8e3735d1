/- The walk of path.Tree. -/
import Derived.Test.YtdpfanifagfciaaDoorTreeW
import Derived.Test.YtdpfanifagfciaaDoorCnt
namespace Go.Proofs.YtdpfanifagfciaaDoor
open Go.RowKit Go.Maps Go.WideMaps
open Op (bytesLess)
theorem may_any (p : ByteArray) (w : World) : Calls Tryd.prog 24 #[.string p] w fun e w' => e = .returned (.bool (mayPath p.data.toList)) ∧ Keeps w w' :=
  (may_of (fun t W => Sh.strings_Index_one t 47 W) p w).mono fun _ _ h => ⟨by rw [h.1, may_eq], h.2.kept⟩
set_option maxRecDepth 100000
section
variable {w : World} {ops : Array Oper} {rest : List Oper} {o : Oper} {a : Act} {Q : Exit → Act → World → Prop}
/-- 'm[s]' behind an open guard. -/
theorem wp_cnt_look_g (hg : Region.wanted o (yielded ops a.tmps) = true) (m x : Operand) (hop : o.op = Op.lookup 82 m x false) (B n : Nat) (f : ByteArray → Int) (hm : a.eval m = .map (some B)) (h : CntM w B n f) (s : ByteArray) (hx : a.eval x = .string s) (hs : s.size ≤ 9223372036854775807)
    (hK : wpList Tryd.prog ops Q rest (a.put o.dst (.int .i64 (f s))) w) : wpList Tryd.prog ops Q (o :: rest) a w := by
  obtain ⟨D, hown, _, hat⟩ := h
  refine wpList_step fun K' hK' => ?_
  rw [if_pos hg]
  obtain ⟨c, hrun, hc, _⟩ := hown.lookup_int cntKey Tryd.underlying82 Tryd.underlying3 (cntZero w) (key := .string s) (keyOf_string_mk Tryd.underlying9 (by unfold maxLen; omega))
  unfold Oper.wp
  simp [execOp, hop, hm, hx, hrun, Result.andThen]
  rw [hat s (by unfold maxLen; omega)] at hc
  simp only [DataW.lit.injEq, Lit.int.injEq, true_and] at hc
  subst hc
  exact hK' _ _ hK
end
/-- The path that was met last. -/
def lastF (l : List FileR) (k : Nat) : ByteArray := if k = 0 then ByteArray.empty else (fAt l (k - 1)).p
theorem lastF_succ (l : List FileR) (k : Nat) : lastF l (k + 1) = (fAt l k).p := by unfold lastF; rw [if_neg (by omega), Nat.add_sub_cancel]
theorem less_last {l : List FileR} {k : Nat} (h : mayPath (fAt l k).P = true) : lessT (lastF l k) (fAt l k).p = (decide (k = 0) || bytesLess (fAt l (k - 1)).P (fAt l k).P) := by
  unfold lessT lastF FileR.P
  by_cases e : k = 0
  · subst e
    rw [if_pos rfl, decide_eq_true rfl, Bool.true_or, toList_eq, toList_eq]
    have hn := mayPath_ne h
    unfold FileR.P at hn
    revert hn
    generalize (fAt l 0).p.data.toList = x
    intro hn
    cases x with
    | nil => exact absurd rfl hn
    | cons c r => rfl
  · rw [if_neg e, decide_eq_false e, Bool.false_or, toList_eq, toList_eq]
theorem okF_walk {l : List FileR} {k : Nat} (hk : k < l.length) (h : okTo l k = true) : okF l k = (mayPath (fAt l k).p.data.toList && (lessT (lastF l k) (fAt l k).p && ((!upIs (fAt l k).p || decide (kindF l k (upT (fAt l k).p) = 2)) && (!((fAt l k).d && decide ((fAt l k).t.size ≠ 0)) && decide ((fAt l k).t.size ≤ 16384))))) := by
  unfold okF
  rw [kind_dir (by omega) h]
  cases hm : mayPath (fAt l k).P with
  | false => unfold FileR.P at hm; rw [hm]; rfl
  | true =>
    rw [less_last hm]
    unfold FileR.P at hm
    rw [hm]
    generalize (decide (k = 0) || bytesLess (fAt l (k - 1)).P (fAt l k).P) = a
    generalize (!upIs (fAt l k).p || dirIn (l.take k) (upT (fAt l k).p)) = b
    generalize (!((fAt l k).d && decide ((fAt l k).t.size ≠ 0))) = c
    generalize decide ((fAt l k).t.size ≤ 16384) = d
    cases a <;> cases b <;> cases c <;> cases d <;> rfl
/-- The map of kinds: of at most so many entries. -/
def KindM (w : World) (B m : Nat) (f : ByteArray → Int) : Prop := ∃ n, n ≤ m ∧ CntM w B n f
theorem empty_lit : (ByteArray.mk #[]) = ByteArray.empty := rfl
set_option maxRecDepth 100000 in
set_option maxHeartbeats 8000000 in
theorem tree_any (v : Value) (l : List FileR) (w : World) (h : FilesAt w.heap v l) (hs : SmallF l) : Calls Tryd.prog 25 #[v] w fun e w' => e = .returned (.bool (treeF l)) ∧ Keeps w w' := by
  obtain ⟨p, q, rfl⟩ := rec_shape h
  by_cases hl : 256 < l.length
  · have HT : Hid (treeF l = false) := by show _ = _; unfold treeF; rw [decide_eq_false (by omega)]; rfl
    have h64 : (256 : Int) < (l.length : Int) := by omega
    rw [HT.out]
    clear h hs HT
    go_enter Tryd.func25, Tryd.ntmps25
    go_wp2_with fail
    go_ret
    exact ⟨rfl, keeps_refl _⟩
  have H := Lib.hid h
  have HS := Lib.hid hs
  clear h hs
  have h64 : ¬ (256 : Int) < (l.length : Int) := by omega
  have hmm := @run_makeMap Tryd.prog
  go_enter Tryd.func25, Tryd.ntmps25
  go_wp2_with fail
  go_loopw [4, 15] (fun t i wr => ∃ k : Nat, k ≤ l.length ∧ i = .int .i64 k ∧ t = .string (lastF l k) ∧ Hid (okTo l k = true) ∧ Hid (KindM wr w.heap.size (2 * k) (kindF l k)) ∧ Hid (Keeps w wr)) (fun _ i _ => l.length - (intOf i).toNat)
  case atStart => exact ⟨0, by omega, rfl, rfl, rfl, ⟨0, Nat.le_refl _, CntM.new w⟩, kal w _⟩
  case round =>
    obtain ⟨k, hk, rfl, rfl, hO, hM, hK⟩ := hrel
    by_cases hlt : k < l.length
    · have hlt64 : (k : Int) < (l.length : Int) := by omega
      have hk0 : (0 : Int) ≤ (k : Int) := by omega
      obtain ⟨b, off, rfl, _, d0, d1, d2⟩ := file_cell (RecAt.keeps H.out hK.out) hlt
      have HPS := Lib.hid (HS.out k hlt).1
      have HTS := Lib.hid (HS.out k hlt).2
      have HON := Lib.hid (fileA_one (fAt l k))
      have HAB := Lib.hid (fun wx => above_any (fAt l k).p wx (by have := HPS.out; omega))
      have HMY := Lib.hid (fun wx => may_any (fAt l k).p wx)
      have HUS : Hid ((upT (fAt l k).p).size ≤ 9223372036854775807) := by
        show _ ≤ _
        cases hu : upP (fAt l k).p.data.toList with
        | none => rw [(upT_none hu).1]; exact Nat.zero_le _
        | some u =>
          obtain ⟨s, e, _⟩ := upP_some hu
          have h1 := congrArg List.length e
          rw [data_size, List.length_append] at h1
          have := HPS.out
          rw [(upT_some hu).1, strB_size]; omega
      have HW := Lib.hid (okF_walk hlt hO.out)
      have HFA : Hid (okF l k = false → treeF l = false) := fun e => okTo_false hlt e
      have HSU : Hid (okF l k = true → okTo l (k + 1) = true) := fun e => by rw [okTo_succ, hO.out, e]; rfl
      have HLS := Lib.hid (lastF_succ l k)
      have HKI : Hid (kindF l (k + 1) = fun s => if s = (fAt l k).p then (if (fAt l k).d then 2 else 1) else kindF l k s) := rfl
      have hsz := hK.out.size
      obtain ⟨n, hn, hm⟩ := hM.out
      have hn63 : n + 1 < 9223372036854775807 := by omega
      have HM := Lib.hid hm
      have HN := Lib.hid hn
      clear hM hm hn
      generalize upT (fAt l k).p = U at *
      generalize upIs (fAt l k).p = I at *
      generalize mayPath (fAt l k).p.data.toList = my at *
      generalize (fAt l k).p = P at *
      generalize (fAt l k).d = D at *
      generalize (fAt l k).t = T at *
      generalize lastF l k = L at *
      generalize hls : lessT L P = ls at *
      have hle := leT_is P L
      rw [hls] at hle
      clear hls
      generalize kindF l k = f at *
      go_wp2_with (refine wpList_store_row rfl 47 (.tmp 6) (.tmp 18) rfl wr.heap.size #[.string P, .bool D, .string T] rfl rfl 47 _ (heap_alloc_last wr _) (by kernel_rfl) rfl HON.out ?_; rw [World.setRow_alloc_new])
      refine Calls.mono (HAB.out _) ?_
      rintro e w1 ⟨rfl, rfl⟩
      have c0 : (wr.alloc (.cells #[.string P, .bool D, .string T] 47)).cell? ⟨wr.heap.size, 0, none⟩ = some (.string P) := World.cell?_alloc_new _ _ _ _
      have c1 : (wr.alloc (.cells #[.string P, .bool D, .string T] 47)).cell? ⟨wr.heap.size, 1, none⟩ = some (.bool D) := World.cell?_alloc_new _ _ _ _
      have c2 : (wr.alloc (.cells #[.string P, .bool D, .string T] 47)).cell? ⟨wr.heap.size, 2, none⟩ = some (.string T) := World.cell?_alloc_new _ _ _ _
      have HMB : Hid (w.heap.size < (wr.alloc (.cells #[.string P, .bool D, .string T] 47)).heap.size) := by have := HM.out.lt; show _ < _; simp; omega
      have HM1 := Lib.hid (HM.out.chg (T := fun _ => False) (Kept.any (kal wr (.cells #[.string P, .bool D, .string T] 47))) (fun x => x))
      have HK1 : Hid (Keeps w (wr.alloc (.cells #[.string P, .bool D, .string T] 47))) := hK.out.trans (kal _ _)
      have hne : wr.heap.size ≠ w.heap.size := by have := HM.out.lt; omega
      clear HM hK
      generalize wr.alloc (.cells #[.string P, .bool D, .string T] 47) = wa at *
      generalize wr.heap.size = F at *
      go_wp2_with fail
      refine Calls.mono (HMY.out _) ?_
      rintro e w2 ⟨rfl, hk2⟩
      replace c0 := keeps_cell hk2 c0
      replace c1 := keeps_cell hk2 c1
      replace c2 := keeps_cell hk2 c2
      have HM2 := Lib.hid (HM1.out.chg (T := fun _ => False) (Kept.any hk2) (fun x => x))
      have HK2 := Lib.hid (HK1.out.trans hk2)
      clear hk2 HM1 HK1 HMB HAB HMY d0 d1 d2 HON
      cases my with
      | false =>
        have HT := Lib.hid (HFA.out (by rw [HW.out]; rfl))
        clear hle
        go_wp2_with fail
        go_ret
        exact ⟨by rw [HT.out]; rfl, HK2.out⟩
      | true =>
      cases ls with
      | false =>
        have HT := Lib.hid (HFA.out (by rw [HW.out]; rfl))
        go_wp2_with fail
        go_ret
        exact ⟨by rw [HT.out]; rfl, HK2.out⟩
      | true =>
      have hk2 : (I = true → f U = 2) ∨ (I = true ∧ f U ≠ 2) := by
        by_cases e : f U = 2
        · exact .inl fun _ => e
        · cases I with
          | false => exact .inl fun h => by cases h
          | true => exact .inr ⟨rfl, e⟩
      rcases hk2 with hk2 | ⟨rfl, hk2⟩
      case inr =>
        have HT := Lib.hid (HFA.out (by rw [HW.out, decide_eq_false hk2]; rfl))
        have g1 : (f U == (2 : Int)) = false := beq_false_of_ne hk2
        have g2 : decide (f U = 2) = false := decide_eq_false hk2
        clear hk2
        go_wp2_with (at_lookup; refine wp_cnt_look_g (by kernel_rfl) (.tmp 39) (.tmp 40) rfl w.heap.size n f rfl HM2.out U rfl HUS.out ?_)
        go_ret
        exact ⟨by rw [HT.out]; rfl, HK2.out⟩
      have HW2 : Hid (okF l k = (!(D && decide (T.size ≠ 0)) && decide (T.size ≤ 16384))) := by
        show _ = _
        rw [HW.out]
        cases I with
        | false => rfl
        | true => rw [decide_eq_true (hk2 rfl)]; rfl
      have HB : Hid (∀ Q : Prop, (I = false → Q) → (I = true → f U = 2 → Q) → Q) := fun Q h1 h2 => by
        cases I with
        | false => exact h1 rfl
        | true => exact h2 rfl (hk2 rfl)
      clear HW hk2
      refine HB.out _ (fun hI => ?_) (fun hI hk2 => ?_)
      · subst hI
        clear HB
        cases D with
        | false =>
          by_cases hz : T.size ≤ 16384
          · have hz64 : decide ((16384 : Int) < (T.size : Int)) = false := decide_eq_false (by omega)
            have HOT := Lib.hid (HSU.out (by rw [HW2.out, decide_eq_true hz]; rfl))
            clear HW2 HFA HSU hz
            go_upto_region 14 with (at_mapUpdate; refine wp_cnt_put rfl _ _ _ rfl w.heap.size n f rfl HM2.out (by omega) P rfl (by have := HPS.out; omega) 1 rfl (by omega) ?_; intro w3 hm3 hc3; have HM3 := Lib.hid hm3; have HK3 : Hid (Keeps w w3) := HK2.out.then (chg_kept (B := w.heap.size) hc3 (fun q _ e => Nat.le_of_eq e.symm) HK2.out.size) (Nat.le_refl _); replace c0 : w3.cell? ⟨F, 0, none⟩ = some (.string P) := cell_chg hc3 c0 (fun e => hne e); replace c1 : w3.cell? ⟨F, 1, none⟩ = some (.bool false) := cell_chg hc3 c1 (fun e => hne e); clear hm3 hc3)
            go_wp2_with fail
            exact ⟨⟨k + 1, by omega, by go_num, by rw [HLS.out], HOT, ⟨n + 1, by have := HN.out; omega, by rw [HKI.out]; exact HM3.out⟩, HK3⟩, by simp [intOf]; omega⟩
          · have hz64 : decide ((16384 : Int) < (T.size : Int)) = true := decide_eq_true (by omega)
            have HT := Lib.hid (HFA.out (by rw [HW2.out, decide_eq_false hz]; rfl))
            clear HW2 HFA HSU hz
            go_wp2_with fail
            go_ret
            exact ⟨by rw [HT.out]; rfl, HK2.out⟩
        | true =>
          by_cases hz : T.size = 0
          · obtain ⟨g1, g2⟩ := empty_facts hz
            have hz64 : decide ((16384 : Int) < (T.size : Int)) = false := decide_eq_false (by omega)
            have HOT := Lib.hid (HSU.out (by rw [HW2.out, decide_eq_false (by omega), decide_eq_true (by omega)]; rfl))
            clear HW2 HFA HSU hz
            go_upto_region 14 with (at_mapUpdate; refine wp_cnt_put rfl _ _ _ rfl w.heap.size n f rfl HM2.out (by omega) P rfl (by have := HPS.out; omega) 1 rfl (by omega) ?_; intro w3 hm3 hc3; have HM3 := Lib.hid hm3; have HK3 : Hid (Keeps w w3) := HK2.out.then (chg_kept (B := w.heap.size) hc3 (fun q _ e => Nat.le_of_eq e.symm) HK2.out.size) (Nat.le_refl _); replace c0 : w3.cell? ⟨F, 0, none⟩ = some (.string P) := cell_chg hc3 c0 (fun e => hne e); replace c1 : w3.cell? ⟨F, 1, none⟩ = some (.bool true) := cell_chg hc3 c1 (fun e => hne e); clear hm3 hc3)
            go_wp2_with (at_mapUpdate; refine wp_cnt_put rfl _ _ _ rfl w.heap.size (n + 1) _ rfl HM3.out (by omega) P rfl (by have := HPS.out; omega) 2 rfl (by omega) ?_; intro w4 hm4 hc4; have HM4 := Lib.hid hm4; have HK4 : Hid (Keeps w w4) := HK3.out.then (chg_kept (B := w.heap.size) hc4 (fun q _ e => Nat.le_of_eq e.symm) HK3.out.size) (Nat.le_refl _); replace c0 : w4.cell? ⟨F, 0, none⟩ = some (.string P) := cell_chg hc4 c0 (fun e => hne e); clear hm4 hc4)
            exact ⟨⟨k + 1, by omega, by go_num, by rw [HLS.out], HOT, ⟨n + 1 + 1, by have := HN.out; omega, by rw [HKI.out]; exact HM4.out.congr fun s => by by_cases e : s = P <;> simp [e]⟩, HK4⟩, by simp [intOf]; omega⟩
          · obtain ⟨g1, g2⟩ := full_facts hz
            have HT := Lib.hid (HFA.out (by rw [HW2.out, decide_eq_true hz]; rfl))
            clear HW2 HFA HSU hz
            go_wp2_with fail
            go_ret
            exact ⟨by rw [HT.out]; rfl, HK2.out⟩
      · subst hI
        clear HB
        cases D with
        | false =>
          by_cases hz : T.size ≤ 16384
          · have hz64 : decide ((16384 : Int) < (T.size : Int)) = false := decide_eq_false (by omega)
            have HOT := Lib.hid (HSU.out (by rw [HW2.out, decide_eq_true hz]; rfl))
            clear HW2 HFA HSU hz
            go_upto_region 14 with (first | (at_lookup; refine wp_cnt_look_g (by kernel_rfl) (.tmp 39) (.tmp 40) rfl w.heap.size n f rfl HM2.out U rfl HUS.out ?_) | (at_mapUpdate; refine wp_cnt_put rfl _ _ _ rfl w.heap.size n f rfl HM2.out (by omega) P rfl (by have := HPS.out; omega) 1 rfl (by omega) ?_; intro w3 hm3 hc3; have HM3 := Lib.hid hm3; have HK3 : Hid (Keeps w w3) := HK2.out.then (chg_kept (B := w.heap.size) hc3 (fun q _ e => Nat.le_of_eq e.symm) HK2.out.size) (Nat.le_refl _); replace c0 : w3.cell? ⟨F, 0, none⟩ = some (.string P) := cell_chg hc3 c0 (fun e => hne e); replace c1 : w3.cell? ⟨F, 1, none⟩ = some (.bool false) := cell_chg hc3 c1 (fun e => hne e); clear hm3 hc3))
            go_wp2_with fail
            exact ⟨⟨k + 1, by omega, by go_num, by rw [HLS.out], HOT, ⟨n + 1, by have := HN.out; omega, by rw [HKI.out]; exact HM3.out⟩, HK3⟩, by simp [intOf]; omega⟩
          · have hz64 : decide ((16384 : Int) < (T.size : Int)) = true := decide_eq_true (by omega)
            have HT := Lib.hid (HFA.out (by rw [HW2.out, decide_eq_false hz]; rfl))
            clear HW2 HFA HSU hz
            go_wp2_with (at_lookup; refine wp_cnt_look_g (by kernel_rfl) (.tmp 39) (.tmp 40) rfl w.heap.size n f rfl HM2.out U rfl HUS.out ?_)
            go_ret
            exact ⟨by rw [HT.out]; rfl, HK2.out⟩
        | true =>
          by_cases hz : T.size = 0
          · obtain ⟨g1, g2⟩ := empty_facts hz
            have hz64 : decide ((16384 : Int) < (T.size : Int)) = false := decide_eq_false (by omega)
            have HOT := Lib.hid (HSU.out (by rw [HW2.out, decide_eq_false (by omega), decide_eq_true (by omega)]; rfl))
            clear HW2 HFA HSU hz
            go_upto_region 14 with (first | (at_lookup; refine wp_cnt_look_g (by kernel_rfl) (.tmp 39) (.tmp 40) rfl w.heap.size n f rfl HM2.out U rfl HUS.out ?_) | (at_mapUpdate; refine wp_cnt_put rfl _ _ _ rfl w.heap.size n f rfl HM2.out (by omega) P rfl (by have := HPS.out; omega) 1 rfl (by omega) ?_; intro w3 hm3 hc3; have HM3 := Lib.hid hm3; have HK3 : Hid (Keeps w w3) := HK2.out.then (chg_kept (B := w.heap.size) hc3 (fun q _ e => Nat.le_of_eq e.symm) HK2.out.size) (Nat.le_refl _); replace c0 : w3.cell? ⟨F, 0, none⟩ = some (.string P) := cell_chg hc3 c0 (fun e => hne e); replace c1 : w3.cell? ⟨F, 1, none⟩ = some (.bool true) := cell_chg hc3 c1 (fun e => hne e); clear hm3 hc3))
            go_wp2_with (at_mapUpdate; refine wp_cnt_put rfl _ _ _ rfl w.heap.size (n + 1) _ rfl HM3.out (by omega) P rfl (by have := HPS.out; omega) 2 rfl (by omega) ?_; intro w4 hm4 hc4; have HM4 := Lib.hid hm4; have HK4 : Hid (Keeps w w4) := HK3.out.then (chg_kept (B := w.heap.size) hc4 (fun q _ e => Nat.le_of_eq e.symm) HK3.out.size) (Nat.le_refl _); replace c0 : w4.cell? ⟨F, 0, none⟩ = some (.string P) := cell_chg hc4 c0 (fun e => hne e); clear hm4 hc4)
            exact ⟨⟨k + 1, by omega, by go_num, by rw [HLS.out], HOT, ⟨n + 1 + 1, by have := HN.out; omega, by rw [HKI.out]; exact HM4.out.congr fun s => by by_cases e : s = P <;> simp [e]⟩, HK4⟩, by simp [intOf]; omega⟩
          · obtain ⟨g1, g2⟩ := full_facts hz
            have HT := Lib.hid (HFA.out (by rw [HW2.out, decide_eq_true hz]; rfl))
            clear HW2 HFA HSU hz
            go_wp2_with (at_lookup; refine wp_cnt_look_g (by kernel_rfl) (.tmp 39) (.tmp 40) rfl w.heap.size n f rfl HM2.out U rfl HUS.out ?_)
            go_ret
            exact ⟨by rw [HT.out]; rfl, HK2.out⟩
    · obtain rfl : k = l.length := by omega
      have HT : Hid (treeF l = true) := by show _ = _; unfold treeF; rw [decide_eq_true (by omega), hO.out]; rfl
      go_wp2_with fail
      go_ret
      exact ⟨by rw [HT.out]; rfl, hK.out⟩
end Go.Proofs.YtdpfanifagfciaaDoor
