/- The walks of the reference's Above, Steps, step, May, dir, Size, Kids; lists of files compared. -/
import Derived.Test.YtdpfanifagfciaaDoorLawPUp
import Derived.Test.YtdpfanifagfciaaDoorTail
import Derived.Laws.StructEq
namespace Go.Proofs.YtdpfanifagfciaaDoor
open Go.RowKit
open Op (bytesLess)
attribute [local go_sem ↓] Go.wp_at_zero Go.wp_at_succ
def byT (b : List UInt8) (i : Nat) : Nat := (b.getD i 0).toNat
set_option maxRecDepth 100000 in
theorem run_byT (s : ByteArray) (i : Nat) (h : i < s.size) (w : World) : (Instr.index 9 (.string s) (.int .i64 (i : Int))).run Tryd.prog w = .ok (.int .u8 (byT s.data.toList i : Int)) w := by
  have hb : ((i : Int).toNat) = i := by omega
  have hl : i < s.data.toList.length := by rw [data_size]; exact h
  rw [run_index_string _ _ _ _ _ rfl, dif_pos ⟨by omega, by omega⟩]
  have e : (s[(i : Int).toNat]'(by omega)).toNat = byT s.data.toList i := by
    unfold byT
    rw [List.getD_eq_getElem?_getD, List.getElem?_eq_getElem hl]; rfl
  rw [e]
theorem byT_at {b : List UInt8} {i : Nat} (h : i < b.length) : byT b i = b[i].toNat := by unfold byT; rw [List.getD_eq_getElem?_getD, List.getElem?_eq_getElem h]; rfl
set_option maxRecDepth 100000 in
set_option maxHeartbeats 4000000 in
theorem rabove_any (p : ByteArray) (w : World) (hs : p.size ≤ 1000000) : Calls Tryd.prog 37 #[.string p] w fun e w' => e = .returned (.tuple #[.string (upT p), .bool (upIs p)]) ∧ w = w' := by
  have hz : p.data.toList.length = p.size := data_size p
  go_enter Tryd.func37, Tryd.ntmps37
  go_wp2_with fail
  go_loopw [4] (fun i wr => ∃ z : Int, i = .int .i64 z ∧ -1 ≤ z ∧ z < (p.size : Int) ∧ Hid (∀ j (hj : j < p.data.toList.length), z < (j : Int) → p.data.toList[j] ≠ 47) ∧ w = wr) (fun i _ => (intOf i + 1).toNat)
  case atStart => exact ⟨(p.size : Int) - 1, by go_num, by omega, by omega, fun j hj h => by omega, rfl⟩
  case round =>
    obtain ⟨z, rfl, hz1, hz2, hN, rfl⟩ := hrel
    by_cases h0 : 0 ≤ z
    · obtain ⟨k, rfl⟩ := Int.eq_ofNat_of_zero_le h0
      have hk : k < p.size := by omega
      have hr := run_byT p k hk
      have hb := byT_at (b := p.data.toList) (i := k) (by omega)
      by_cases h47 : byT p.data.toList k = 47
      · have HE : Hid (upT p = p.extract 0 k ∧ upIs p = true) := by
          have h5 := up_at (p := p.data.toList) (i := k) (by omega) (UInt8.toNat_inj.1 (show _ = 47 by omega)) (fun j hj h => hN.out j hj (by omega))
          have := upT_some h5
          rw [← ext_take] at this
          exact this
        have g1 : ((byT p.data.toList k : Int) == 47) = true := by rw [beq_iff_eq]; omega
        have g2 : decide ((byT p.data.toList k : Int) = 47) = true := decide_eq_true (by omega)
        have i2 : (k : Int) ≤ (p.size : Int) := by omega
        have i3 : ((k : Int)).toNat = k := by omega
        clear hb h47 hz
        generalize byT p.data.toList k = b at *
        go_wp2_with fail
        go_ret2
        rw [HE.out.1, HE.out.2]
        exact ⟨rfl, rfl⟩
      · have HN2 : Hid (∀ j (hj : j < p.data.toList.length), (k : Int) - 1 < (j : Int) → p.data.toList[j] ≠ 47) := fun j hj h e => by
          by_cases e2 : j = k
          · subst e2; rw [e] at hb; exact h47 hb
          · exact hN.out j hj (by omega) e
        have g1 : ((byT p.data.toList k : Int) == 47) = false := beq_false_of_ne (by omega)
        have g2 : decide ((byT p.data.toList k : Int) = 47) = false := decide_eq_false (by omega)
        clear hb h47 hz
        generalize byT p.data.toList k = b at *
        go_wp2_with fail
        exact ⟨⟨(k : Int) - 1, by go_num, by omega, by omega, HN2, by first | rfl | trivial⟩, by simp [intOf] <;> omega⟩
    · have HE : Hid (upT p = ByteArray.empty ∧ upIs p = false) := upT_none (up_no fun j hj => hN.out j hj (by omega))
      have g1 : decide ((0 : Int) ≤ z) = false := decide_eq_false h0
      go_wp2_with fail
      go_ret2
      rw [HE.out.1, HE.out.2]
      exact ⟨rfl, rfl⟩
theorem OwnSeq.set {α : Type} {base : Nat} {E : TypeId} {R : Value → α → Prop} {w : World} {g n c : Nat} {l : List α} (h : OwnSeq base E R w (.slice (some ⟨g, 0, none⟩) n c) l) {i : Nat} (u : Value) (x : α) (hr : R u x) : OwnSeq base E R (w.setCell ⟨g, i, none⟩ u) (.slice (some ⟨g, 0, none⟩) n c) (l.set i x) := by
  obtain ⟨us, ⟨h0, h1⟩, h2, h3⟩ := h
  rcases h1 with ⟨e, _⟩ | ⟨g', cap, cur, e, hb, hg, hc1, hc2, hc3, hc4⟩
  · cases e
  · injection e with e1 e2 e3
    injection e1 with e1
    injection e1 with e1 _ _
    subst e1
    have hB : BlkAt w g E cur := hg
    refine ⟨us.set i u, ⟨by simp, .inr ⟨g, cap, cur.setIfInBounds i u, by rw [e3]; simp [e2], hb, hB.set i u, by simpa using hc1, hc2, by simpa using hc3, ?_⟩⟩, by simp [h2], fun j hj hj' => ?_⟩
    · simp only [Array.toList_setIfInBounds, List.length_set]
      rw [List.take_set, hc4]
    · simp only [List.length_set] at hj hj'
      by_cases e4 : i = j
      · subst e4; simp only [List.getElem_set_self]; exact hr
      · rw [List.getElem_set_ne e4, List.getElem_set_ne e4]; exact h3 j hj hj'
theorem OwnSeq.cell {α : Type} {base : Nat} {E : TypeId} {R : Value → α → Prop} {w : World} {v : Value} {l : List α} (h : OwnSeq base E R w v l) (hl : 0 < l.length) : ∃ g c, v = .slice (some ⟨g, 0, none⟩) l.length c ∧ base ≤ g ∧ ∀ i (hi : i < l.length), w.frozen? ⟨g, i, none⟩ = false ∧ ∃ u, w.cell? ⟨g, i, none⟩ = some u ∧ R u l[i] := by
  obtain ⟨us, ⟨h0, h1⟩, h2, h3⟩ := h
  rcases h1 with ⟨rfl, hn⟩ | ⟨g, cap, cur, rfl, hb, hg, hc1, hc2, hc3, hc4⟩
  · omega
  · have hB : BlkAt w g E cur := hg
    refine ⟨g, cap, by rw [h2], hb, fun i hi => ⟨hB.froz i, us[i]'(by omega), hB.cell ?_, h3 i (by omega) hi⟩⟩
    have h5 : (cur.toList.take (us.length * 1))[i]? = us[i]? := by rw [hc4]
    rw [List.getElem?_take, if_pos (by omega), List.getElem?_eq_getElem (l := us) (by omega)] at h5
    rw [← h5, Array.getElem?_toList]
theorem split_piece2 : ∀ (p : List UInt8) (s : List UInt8), s ∈ splitP p → s.length ≤ p.length
  | [], s, h => by simp [splitP] at h; subst h; simp
  | c :: r, s, h => by
    by_cases hc : c = 47
    · subst hc
      rw [splitP_slash] at h
      rcases List.mem_cons.1 h with h | h
      · subst h; simp
      · have := split_piece2 r s h; simp; omega
    · obtain ⟨x, t, hs, e⟩ := splitP_cons hc r
      rw [e] at h
      rcases List.mem_cons.1 h with h | h
      · subst h
        have := split_piece2 r x (by rw [hs]; exact List.mem_cons_self ..)
        simp; omega
      · have := split_piece2 r s (by rw [hs]; exact List.mem_cons_of_mem _ h)
        simp; omega
theorem splitP_snoc1 (a : List UInt8) : splitP (a ++ [47]) = splitP a ++ [[]] := by
  have := splitP_cat a []
  rw [this]; rfl
def lastP (p : List UInt8) : List UInt8 := (splitP p).getD ((splitP p).length - 1) []
theorem splitP_snoc : ∀ (a : List UInt8) {c : UInt8}, c ≠ 47 → splitP (a ++ [c]) = (splitP a).set ((splitP a).length - 1) (lastP a ++ [c])
  | [], c, h => by
    have e : splitP [c] = [[c]] := splitP_none (by simp; exact fun x => h x.symm)
    show splitP [c] = _
    rw [e]; rfl
  | x :: r, c, h => by
    have ih := splitP_snoc r h
    have hn : 0 < (splitP r).length := List.length_pos_iff.2 (splitP_ne r)
    by_cases hx : x = 47
    · subst hx
      have e1 : splitP (47 :: r) = [] :: splitP r := splitP_slash r
      have e2 : splitP (47 :: r ++ [c]) = [] :: splitP (r ++ [c]) := splitP_slash (r ++ [c])
      have e3 : lastP (47 :: r) = lastP r := by
        unfold lastP; rw [e1, List.length_cons, Nat.add_sub_cancel]
        obtain ⟨m, hm⟩ : ∃ m, (splitP r).length = m + 1 := ⟨_, (Nat.succ_pred_eq_of_pos hn).symm⟩
        rw [hm, Nat.add_sub_cancel]; rfl
      rw [e2, ih, e1, e3, List.length_cons, Nat.add_sub_cancel]
      obtain ⟨m, hm⟩ : ∃ m, (splitP r).length = m + 1 := ⟨_, (Nat.succ_pred_eq_of_pos hn).symm⟩
      rw [hm, Nat.add_sub_cancel]; rfl
    · obtain ⟨y, t, hs, e⟩ := splitP_cons hx r
      have hs2 : splitP (r ++ [c]) = (splitP r).set ((splitP r).length - 1) (lastP r ++ [c]) := ih
      have e2 : splitP (x :: r ++ [c]) = match splitP (r ++ [c]) with | [] => [[x]] | h :: t => (x :: h) :: t := by
        show splitP (x :: (r ++ [c])) = _
        rw [splitP, if_neg hx]
        cases splitP (r ++ [c]) <;> rfl
      rw [e2, hs2, e]
      unfold lastP
      rw [e, hs]
      cases t with
      | nil => simp
      | cons z t => simp
theorem stepsTo {l : List UInt8} {k : Nat} (h : k < l.length) : splitP (l.take (k + 1)) = if l[k] = 47 then splitP (l.take k) ++ [[]] else (splitP (l.take k)).set ((splitP (l.take k)).length - 1) (lastP (l.take k) ++ [l[k]]) := by
  rw [List.take_succ_eq_append_getElem h]
  by_cases e : l[k] = 47
  · rw [if_pos e, e, splitP_snoc1]
  · rw [if_neg e, splitP_snoc _ e]
set_option maxRecDepth 100000 in
set_option maxHeartbeats 8000000 in
theorem rsteps_any (p : ByteArray) (w : World) (hs : p.size ≤ 1000000) : Calls Tryd.prog 35 #[.string p] w (GiveTexts w (stepsT p)) := by
  by_cases h0 : p.size = 0
  · have HS : Hid (stepsT p = []) := by show _ = _; unfold stepsT; rw [if_pos h0]
    obtain rfl := empty_of h0
    go_enter Tryd.func35, Tryd.ntmps35
    go_wp2
    go_ret
    exact ⟨_, rfl, by rw [HS.out]; exact SeqIn.nil _ _ _ _, keeps_refl _⟩
  have HS : Hid (stepsT p = (splitP p.data.toList).map strB) := by show _ = _; unfold stepsT; rw [if_neg h0]
  obtain ⟨g1, g2⟩ := full_facts h0
  have HL := Lib.hid (split_len p.data.toList)
  have HDS := Lib.hid (data_size p)
  have HD6 : Hid (OwnSeq w.heap.size 9 IsText (w.alloc (.cells #[.string ⟨#[]⟩] 9)) (.slice (some ⟨w.heap.size, 0, none⟩) 1 1) ((splitP (p.data.toList.take 0)).map strB)) := by
    refine ⟨[.string ⟨#[]⟩], ?_, rfl, fun i hi hi' => ?_⟩
    · exact ⟨rfl, .inr ⟨w.heap.size, 1, #[.string ⟨#[]⟩], rfl, Nat.le_refl _, World.alloc_heap_new w _, Nat.le_refl _, by simp [maxLen], rfl, rfl⟩⟩
    · have : i = 0 := by simp at hi; exact hi
      subst this; rfl
  clear h0
  go_enter Tryd.func35, Tryd.ntmps35
  go_wp2_with fail
  go_loopw [3, 4] (fun v i wr => ∃ k : Nat, k ≤ p.size ∧ i = .int .i64 k ∧ Hid (OwnSeq w.heap.size 9 IsText wr v ((splitP (p.data.toList.take k)).map strB)) ∧ Hid (Keeps w wr)) (fun _ i _ => p.size - (intOf i).toNat)
  case atStart => exact ⟨0, by omega, rfl, by exact HD6, by exact kal _ _⟩
  case round =>
    obtain ⟨k, hk, rfl, hD, hK⟩ := hrel
    by_cases hlt : k < p.size
    · have hlt64 : (k : Int) < (p.size : Int) := by omega
      have hk0 : (0 : Int) ≤ (k : Int) := by omega
      have hkl : k < p.data.toList.length := by have := HDS.out; omega
      have hr := run_byT p k hlt
      have hb := byT_at hkl
      have hst := stepsTo hkl
      have HSP : Hid ((splitP (p.data.toList.take k)).length ≤ k + 1) := by
        show _ ≤ _
        have := split_len (p.data.toList.take k)
        rw [List.length_take] at this; omega
      have hszk := hK.out.size
      by_cases h47 : byT p.data.toList k = 47
      · have hc : p.data.toList[k] = 47 := UInt8.toNat_inj.1 (show _ = 47 by omega)
        rw [if_pos hc] at hst
        have HST := Lib.hid hst
        have g3 : ((byT p.data.toList k : Int) == 47) = true := by rw [beq_iff_eq]; omega
        have g4 : decide ((byT p.data.toList k : Int) = 47) = true := decide_eq_true (by omega)
        obtain ⟨us, hu1, hu2, hu3⟩ := hD.out
        obtain ⟨pv, qv, rfl⟩ := own_slice hu1
        have HU := Lib.hid hu1
        have HL2 := Lib.hid hu2
        have HU3 := Lib.hid hu3
        have HL3 : Hid (us.length ≤ 1000001) := by show _ ≤ _; rw [hu2, List.length_map]; have := HSP.out; omega
        clear hu1 hu2 hu3 hst hb h47 hc hD
        generalize byT p.data.toList k = b at *
        go_wp2_with (at_builtin; refine wp_app1 elText rfl (.tmp 18) (.tmp 19) rfl w.heap.size (.slice pv us.length qv) us rfl (HU.out.alloc _) _ (.string ⟨#[]⟩) rfl (World.cell?_alloc_new _ _ _ _) rfl (by have := HL3.out; omega) (by simp; omega) ?_; intro v' w7 hown hchg; have HP7 := Lib.hid (OwnSeq.push (R := IsText) (R' := IsText) (l := (splitP (p.data.toList.take k)).map strB) (x := strB []) HL2.out HU3.out hown (fun _ _ _ x => x) rfl); have HK7 : Hid (Keeps w w7) := hK.out.then (chg_kept (B := w.heap.size) (Chg.trans (Kept.any (kal _ _)) hchg) (fun q _ e => (own_block HU.out q e).1) hK.out.size) (Nat.le_refl _); clear hown hchg)
        exact ⟨⟨k + 1, by omega, by go_num, by rw [HST.out, List.map_append]; exact HP7, HK7⟩, by simp [intOf]; omega⟩
      · have hc : ¬ p.data.toList[k] = 47 := fun e => h47 (by rw [hb, e]; rfl)
        rw [if_neg hc] at hst
        have HST := Lib.hid hst
        have g3 : ((byT p.data.toList k : Int) == 47) = false := beq_false_of_ne (by omega)
        have g4 : decide ((byT p.data.toList k : Int) = 47) = false := decide_eq_false (by omega)
        have hpos : 0 < (splitP (p.data.toList.take k)).length := List.length_pos_iff.2 (splitP_ne _)
        obtain ⟨g, c, hv, hgb, hcl⟩ := OwnSeq.cell hD.out (by rw [List.length_map]; exact hpos)
        rw [List.length_map] at hv
        subst hv
        obtain ⟨fr, u, c0, hu⟩ := hcl ((splitP (p.data.toList.take k)).length - 1) (by rw [List.length_map]; omega)
        unfold IsText at hu
        subst hu
        have hla : ((splitP (p.data.toList.take k)).map strB)[(splitP (p.data.toList.take k)).length - 1]'(by rw [List.length_map]; omega) = strB (lastP (p.data.toList.take k)) := by
          unfold lastP
          rw [List.getElem_map, List.getD_eq_getElem?_getD, List.getElem?_eq_getElem (by omega)]; rfl
        rw [hla] at c0
        have hcat : strB (lastP (p.data.toList.take k)) ++ p.extract k (k + 1) = strB (lastP (p.data.toList.take k) ++ [p.data.toList[k]]) := by
          have e1 : p.extract k (k + 1) = strB [p.data.toList[k]] := by
            rw [ext_both]
            congr 1
            rw [List.drop_eq_getElem_cons hkl, show k + 1 - k = 1 from by omega]; rfl
          rw [e1, strB_append]
        have hzl : (strB (lastP (p.data.toList.take k))).size ≤ 1000000 := by
          rw [strB_size]
          have h1 : lastP (p.data.toList.take k) ∈ splitP (p.data.toList.take k) := by
            unfold lastP
            rw [List.getD_eq_getElem?_getD, List.getElem?_eq_getElem (by omega)]; exact List.getElem_mem _
          have := split_piece2 _ _ h1
          rw [List.length_take] at this; omega
        have HSET : Hid (∀ wx : World, Keeps wr wx → OwnSeq w.heap.size 9 IsText (wx.setCell ⟨g, (splitP (p.data.toList.take k)).length - 1, none⟩ (.string (strB (lastP (p.data.toList.take k) ++ [p.data.toList[k]])))) (.slice (some ⟨g, 0, none⟩) (splitP (p.data.toList.take k)).length c) ((splitP (p.data.toList.take (k + 1))).map strB)) := fun wx hx => by
          have h5 := OwnSeq.set (OwnSeq.chg (T := fun _ => False) hD.out (Kept.any hx) (fun _ _ x => x) (fun _ _ _ x => x)) (i := (splitP (p.data.toList.take k)).length - 1) (.string (strB (lastP (p.data.toList.take k) ++ [p.data.toList[k]]))) (strB (lastP (p.data.toList.take k) ++ [p.data.toList[k]])) rfl
          rw [← List.map_set] at h5
          rw [HST.out]; exact h5
        have HKS : Hid (∀ wx : World, Keeps wr wx → ∀ vv, Keeps w (wx.setCell ⟨g, (splitP (p.data.toList.take k)).length - 1, none⟩ vv)) := fun wx hx vv => (hK.out.trans hx).then (chg_kept (B := w.heap.size) (chg_set wx g _ vv) (fun q _ e => by rw [e]; exact hgb) (hK.out.trans hx).size) (Nat.le_refl _)
        have hsp := HSP.out
        have hzx : (p.extract k (k + 1)).size = 1 := by rw [ByteArray.size_extract]; omega
        have hn1 : (((splitP (p.data.toList.take k)).length - 1 : Nat) : Int) = ((splitP (p.data.toList.take k)).length : Int) - 1 := by omega
        clear hla hst hb h47 hc hD HST hcl HSP
        generalize strB (lastP (p.data.toList.take k) ++ [p.data.toList[k]]) = z at *
        generalize strB (lastP (p.data.toList.take k)) = y at *
        generalize (splitP (p.data.toList.take k)).length = n at *
        generalize byT p.data.toList k = b at *
        obtain ⟨m, rfl⟩ : ∃ m, n = m + 1 := ⟨n - 1, by omega⟩
        simp only [Nat.add_sub_cancel] at *
        have m1 : (m : Int) + 1 - 1 = (m : Int) := by omega
        have m2 : IntKind.i64.wrap ((m : Int) + 1 - 1) = (m : Int) := by rw [IntWalk.i64_in _ (by omega)]; omega
        have m3 : (0 : Int) ≤ (m : Int) := by omega
        have m4 : (m : Int) < (m : Int) + 1 := by omega
        have m5 : IntKind.i64.wrap ((k : Int) + 1) = (k : Int) + 1 := IntWalk.i64_in _ (by omega)
        have m6 : ((k : Int) + 1).toNat = k + 1 := by omega
        have m7 : (k : Int) + 1 ≤ (p.size : Int) := by omega
        have m8 : (k : Int) ≤ (k : Int) + 1 := by omega
        have m9 : (m : Int) + 1 ≤ 1000001 := by omega
        generalize hX : p.extract k (k + 1) = X at *
        clear hn1
        go_upto_region 9 with (fail)
        refine wp_region_tail (List.dropLast _) (List.getLast _ (List.cons_ne_nil _ _)) (List.dropLast_concat_getLast _).symm (by kernel_rfl) (by kernel_rfl) (by kernel_rfl) (by kernel_rfl) rfl (by kernel_rfl) ?_; simp only [List.dropLast_cons_cons, List.dropLast_singleton, List.getLast_cons_cons, List.getLast_singleton]; (repeat (go_big_quiet_step (fail))); refine wpQuiet_nil ?_; intro _ hw1; obtain ⟨nq, hw2⟩ := hw1; subst hw2
        all_goals
          go_wp2_with fail
          exact ⟨⟨k + 1, by omega, by go_num, by exact HSET.out (wr.drewN nq) (keeps_refl _), by exact HKS.out (wr.drewN nq) (keeps_refl _) _⟩, by simp [intOf]; omega⟩
    · obtain rfl : k = p.size := by omega
      have hD2 := hD.out
      rw [← HDS.out, List.take_length] at hD2
      go_wp2_with fail
      go_ret
      exact ⟨_, rfl, by rw [HS.out]; exact hD2.seq (by rw [List.length_map]; have := HL.out; have := HDS.out; omega), hK.out⟩
end Go.Proofs.YtdpfanifagfciaaDoor
