/- The walk of the document's Read. -/
import Derived.Test.YteandjophamipaaPackRead
import Derived.Test.YteandjophamipaaRefPMake
import Derived.Test.YteandjophamipaaPackLaw
namespace Go.Proofs.Yteandjophamipaa
open Go.RowKit
theorem readP_err {b : List UInt8} (h : okR b = false ∨ mayP (chunksR b (cntR b)) = false) : readP b = ([], [], 4) := by
  unfold readP
  rcases h with h | h
  · rw [h]; rfl
  · rw [h, Bool.and_false]; rfl
set_option maxRecDepth 100000 in
/-- A byte of a text. -/
theorem run_at (s : ByteArray) (i : Nat) (h : i < s.size) (w : World) : (Instr.index 9 (.string s) (.int .i64 (i : Int))).run Try.prog w = .ok (.int .u8 (byteAt s.data.toList i : Int)) w := by
  have hb : ((i : Int).toNat) = i := by omega
  have hl : i < s.data.toList.length := by rw [data_size]; exact h
  rw [run_index_string _ _ _ _ _ rfl, dif_pos ⟨by omega, by omega⟩]
  have e : (s[(i : Int).toNat]'(by omega)).toNat = byteAt s.data.toList i := by
    unfold byteAt
    rw [List.getD_eq_getElem?_getD, List.getElem?_eq_getElem hl]; rfl
  rw [e]
theorem wrap_num (b : List UInt8) (i : Nat) : wrap64 (wrap64 (wrap64 (byteAt b i : Int) * 256) + wrap64 (byteAt b (i + 1) : Int)) = (num b i : Int) := by
  have h1 := byteAt_lt b i
  have h2 := byteAt_lt b (i + 1)
  unfold num
  generalize byteAt b i = x at *
  generalize byteAt b (i + 1) = y at *
  unfold wrap64; omega
set_option maxRecDepth 100000 in
set_option maxHeartbeats 4000000 in
theorem refpread_any (s : ByteArray) (w : World) (hs : s.size ≤ 60000) : Calls Try.prog 21 #[.string s] w (GiveR w (readP s.data.toList)) := by
  have hbl : s.data.toList.length = s.size := data_size s
  have hbt : s.extract 0 4 = strB (s.data.toList.take 4) := ext_take s 4
  by_cases h6 : s.size < 6
  · have HE : Hid (readP s.data.toList = ([], [], 4)) := readP_err (.inl (by unfold okR; rw [decide_eq_false (p := 6 ≤ _) (by omega)]; rfl))
    have g0 : decide ((s.size : Int) < 6) = true := decide_eq_true (by omega)
    clear hbl hbt h6
    go_enter Try.func21, Try.ntmps21
    go_wp2_with fail
    all_goals
      go_ret3
      rw [HE.out]
      exact GiveR.err (keeps_refl _)
  have g0 : decide ((s.size : Int) < 6) = false := decide_eq_false (by omega)
  by_cases h4 : s.data.toList.take 4 = headB
  case neg =>
    have HE : Hid (readP s.data.toList = ([], [], 4)) := readP_err (.inl (by unfold okR; rw [decide_eq_false (p := _ = headB) h4, Bool.and_false]; rfl))
    have g1 : ((s.extract 0 4).toList == [112, 97, 107, 49]) = false := by rw [hbt, strB_toList]; exact beq_eq_false_iff_ne.2 h4
    clear hbl hbt h4
    go_enter Try.func21, Try.ntmps21
    go_wp2_with fail
    all_goals
      go_ret3
      rw [HE.out]
      exact GiveR.err (keeps_refl _)
  have g1 : ((s.extract 0 4).toList == [112, 97, 107, 49]) = true := by rw [hbt, strB_toList, h4]; rfl
  obtain ⟨b, hb⟩ : ∃ b, b = s.data.toList := ⟨_, rfl⟩
  have r4 : ∀ wx : World, (Instr.index 9 (.string s) (.int .i64 4)).run Try.prog wx = .ok (.int .u8 (byteAt s.data.toList 4 : Int)) wx := run_at s 4 (by omega)
  have r5 : ∀ wx : World, (Instr.index 9 (.string s) (.int .i64 5)).run Try.prog wx = .ok (.int .u8 (byteAt s.data.toList 5 : Int)) wx := run_at s 5 (by omega)
  have HV : Hid (wrap64 (wrap64 (wrap64 (byteAt s.data.toList 4 : Int) * 256) + wrap64 (byteAt s.data.toList 5 : Int)) = (cntR s.data.toList : Int)) := wrap_num s.data.toList 4
  have RA : Hid (∀ i : Nat, i < s.size → ∀ wx : World, (Instr.index 9 (.string s) (.int .i64 (i : Int))).run Try.prog wx = .ok (.int .u8 (byteAt s.data.toList i : Int)) wx) := run_at s
  rw [← hb] at hbl h4 RA HV r4 r5 ⊢
  have HBL := Lib.hid hbl
  have H4 := Lib.hid h4
  obtain ⟨n, hn⟩ : ∃ n, cntR b = n := ⟨_, rfl⟩
  have hn65 : n < 65536 := by rw [← hn]; exact num_lt b 4
  rw [hn] at HV
  have HN := Lib.hid hn
  have HB := Lib.hid hb
  clear hbl hbt h4 hn hb
  go_enter Try.func21, Try.ntmps21
  go_wp2_with fail
  go_quiet (fail)
  rw [HV.out]
  clear r4 r5 HV
  go_wp2_with fail
  go_loopw [6, 7, 8, 9] (fun f u i z wr => ∃ k : Nat, k ≤ n ∧ i = .int .i64 k ∧ f = .int .i64 (fromR b k : Int) ∧ (k = 0 ∨ fromR b k ≤ s.size) ∧ Hid (OwnSeq w.heap.size 9 IsText wr u (chunksR b k)) ∧ Hid (Keeps w wr)) (fun _ _ i _ _ => n - (intOf i).toNat)
  case atStart => exact ⟨0, by omega, rfl, (by unfold fromR sumR; rw [HN.out]; go_num), .inl rfl, OwnSeq.nil _ _ _ _, keeps_refl _⟩
  case round =>
    obtain ⟨k, hk, rfl, rfl, hf, hO, hK⟩ := hrel
    by_cases hlt : k < n
    · have hlt64 : (k : Int) < (n : Int) := by omega
      by_cases h2 : 6 + 2 * n > s.size
      · have HE : Hid (readP b = ([], [], 4)) := readP_err (.inl (okR_from (by have := HBL.out; have := HN.out; unfold fromR; omega)))
        clear hf
        go_wp2_with fail
        all_goals
          go_ret3
          rw [HE.out]
          exact GiveR.err hK.out
      have hf0 : fromR b k ≤ s.size := by
        rcases hf with rfl | hf
        · unfold fromR sumR; have := HN.out; omega
        · exact hf
      have HF : Hid (fromR b (k + 1) = fromR b k + sizeR b k) := by show _ = _; unfold fromR; show _ + (sumR b k + _) = _; omega
      have hz65 : sizeR b k < 65536 := num_lt b _
      have gi : decide ((s.size : Int) < 6 + 2 * (n : Int)) = false := decide_eq_false (by omega)
      have r6 : ∀ wx : World, (Instr.index 9 (.string s) (.int .i64 (6 + 2 * (k : Int)))).run Try.prog wx = .ok (.int .u8 (byteAt b (6 + 2 * k) : Int)) wx := by
        have e : ((6 + 2 * k : Nat) : Int) = 6 + 2 * (k : Int) := by omega
        rw [← e]; exact RA.out _ (by omega)
      have r7 : ∀ wx : World, (Instr.index 9 (.string s) (.int .i64 (7 + 2 * (k : Int)))).run Try.prog wx = .ok (.int .u8 (byteAt b (6 + 2 * k + 1) : Int)) wx := by
        have e : ((6 + 2 * k + 1 : Nat) : Int) = 7 + 2 * (k : Int) := by omega
        rw [← e]; exact RA.out _ (by omega)
      have HV : Hid (wrap64 (wrap64 (wrap64 (byteAt b (6 + 2 * k) : Int) * 256) + wrap64 (byteAt b (6 + 2 * k + 1) : Int)) = (sizeR b k : Int)) := wrap_num b (6 + 2 * k)
      have HM : Hid (k + 1 ≤ n → fromR b (k + 1) ≤ fromR b n) := fun h => fromR_mono b h
      have HC : Hid (chunkR b k = strB ((b.drop (fromR b k)).take (sizeR b k))) := rfl
      have HCS : Hid (chunksR b (k + 1) = chunksR b k ++ [chunkR b k]) := chunksR_succ b k
      generalize fromR b k = f at *
      generalize sizeR b k = z at *
      generalize byteAt b (6 + 2 * k) = y6 at *
      generalize byteAt b (6 + 2 * k + 1) = y7 at *
      clear hf
      go_wp2_with fail
      go_quiet (fail)
      rw [HV.out]
      have hK : Hid (Keeps w (wr.drewN nq)) := hK
      have hO : Hid (OwnSeq w.heap.size 9 IsText (wr.drewN nq) u7 (chunksR b k)) := hO
      generalize wr.drewN nq = w5 at *
      clear r6 r7 HV
      by_cases h3 : f + z > s.size
      · have HE : Hid (readP b = ([], [], 4)) := readP_err (.inl (okR_from (by have := HBL.out; have := HN.out; have := HM.out (by omega); have := HF.out; rw [HN.out]; omega)))
        have g3 : decide ((s.size : Int) < (f : Int) + (z : Int)) = true := decide_eq_true (by omega)
        go_wp2_with fail
        all_goals
          go_ret3
          rw [HE.out]
          exact GiveR.err hK.out
      have g3 : decide ((s.size : Int) < (f : Int) + (z : Int)) = false := decide_eq_false (by omega)
      obtain ⟨us, hu1, hu2, hu3⟩ := hO.out
      have hul : us.length = k := by rw [hu2, chunksR_length]
      have HU := Lib.hid hu1
      have HL2 := Lib.hid hu2
      have HL3 := Lib.hid hul
      have H3 := Lib.hid hu3
      have hsz := hK.out.size
      have hX : s.extract f (f + z) = chunkR b k := by
        rw [ext_both, ← HB.out, HC.out, show f + z - f = z from by omega]
      have HX := Lib.hid hX
      clear hu1 hu2 hul hu3 hX
      go_wp2_with (at_builtin; refine wp_app1 elText rfl _ _ rfl w.heap.size u7 us rfl (HU.out.alloc _) _ (.string (s.extract f (f + z))) rfl ?c1 rfl ?c2 ?c3 ?_)
      case c1 => first | exact World.cell?_alloc_new _ _ _ _ | simp [go_sem]
      case c2 => have := HL3.out; omega
      case c3 => simp; omega
      intro v' w6 hown hchg
      have HO6 : Hid (OwnSeq w.heap.size 9 IsText w6 v' (chunksR b (k + 1))) := by
        show OwnSeq _ _ _ _ _ _
        rw [HCS.out]
        exact OwnSeq.push (R := IsText) HL2.out H3.out hown (fun _ _ _ x => x) (by rw [HX.out]; rfl)
      have hc6 : Chg (fun b => u7.ownBlock = some b) w5 w6 := ((Chg.refl _ w5).alloc _).trans hchg
      have HK6 : Hid (Keeps w w6) := hK.out.then (Chg.kept (hc6.mono (T' := fun b => w.heap.size ≤ b) fun b _ hb => (own_block HU.out b hb).1) hsz) (Nat.le_refl _)
      clear hown hchg hc6
      go_wp2_with fail
      exact ⟨⟨k + 1, by omega, by go_num, by rw [HF.out]; go_num, .inr (by rw [HF.out]; omega), HO6, HK6⟩, by simp [intOf]; omega⟩
    · obtain rfl : k = n := by omega
      obtain ⟨w5, rfl⟩ : ∃ w5 : World, w5 = wr := ⟨_, rfl⟩
      have HCT : Hid (SeqIn (w.heap.size ≤ ·) 9 IsText w5.heap u7 (chunksR b k)) := hO.out.seq (by rw [chunksR_length]; omega)
      obtain ⟨p7, q7, rfl⟩ := seq_shape (SeqIn.at_ HCT.out)
      rw [chunksR_length] at HCT ⊢
      have hsz := hK.out.size
      cases hm : mayP (chunksR b k) with
      | false =>
        have HE : Hid (readP b = ([], [], 4)) := readP_err (.inr (by rw [HN.out]; exact hm))
        have HM : Hid (makeP (chunksR b k) = (ByteArray.empty, [], 4)) := by show _ = _; unfold makeP; rw [hm]; rfl
        clear hm
        go_wp2_with fail
        refine Calls.mono (makeP_e (refpmake_any _ (chunksR b k) _ (SeqIn.at_ HCT.out)) HM.out) ?_
        rintro e w6 ⟨v, rfl, ha, hk6⟩
        have HK6 := Lib.hid (hK.out.call hk6 (Nat.le_refl _))
        clear ha hk6
        go_wp2_with fail
        all_goals
          go_ret3
          rw [HE.out]
          exact GiveR.err HK6.out
      | true =>
        have HM : Hid (makeP (chunksR b k) = (strB (blobP (chunksR b k)), offsP (chunksR b k), 0)) := by show _ = _; unfold makeP; rw [hm]; rfl
        have h1 : 1 ≤ k := by
          rcases Nat.eq_zero_or_pos k with e | e
          · subst e; cases hm
          · exact e
        have hfn : fromR b k ≤ s.size := by
          rcases hf with e | e
          · omega
          · exact e
        have hst : s.toList = b := by rw [HB.out]; exact toList_eq s
        cases hok : okR b with
        | true =>
          have HE : Hid (readP b = (chunksR b k, offsP (chunksR b k), 0)) := by show _ = _; unfold readP; rw [HN.out, hok, hm]; rfl
          have gt : ((strB (blobP (chunksR b k))).toList == s.toList) = true := by
            have := blob_R hok
            rw [HN.out] at this
            rw [strB_toList, this, hst]; simp
          clear hm hok hst hf
          go_wp2_with fail
          refine Calls.mono (makeP_e (refpmake_any _ (chunksR b k) _ (SeqIn.at_ HCT.out)) HM.out) ?_
          rintro e w6 ⟨v, rfl, ha, hk6⟩
          have HK6 := Lib.hid (hK.out.call hk6 (Nat.le_refl _))
          have HA := Lib.hid ha
          have HCT6 : Hid (SeqIn (w.heap.size ≤ ·) 9 IsText w6.heap (.slice p7 k q7) (chunksR b k)) := SeqIn.chg HCT.out (T := fun _ => False) (Kept.any hk6) (fun _ _ _ _ x => x) fun _ _ _ x => x
          clear ha hk6
          go_wp2_with fail
          go_ret3
          rw [HE.out]
          exact ⟨_, _, rfl, HCT6.out, SeqIn.mono HA.out (fun j hj => Nat.le_trans hsz hj) fun _ _ x => x, HK6.out⟩
        | false =>
          have HE : Hid (readP b = ([], [], 4)) := readP_err (.inl hok)
          have gt : ((strB (blobP (chunksR b k))).toList == s.toList) = false := by
            rw [strB_toList, hst]
            refine beq_eq_false_iff_ne.2 fun e => ?_
            have hl := congrArg List.length e
            have hbl := HBL.out
            have ht := chunksR_total (b := b) (k := k) (by omega)
            rw [blob_length, chunksR_length, ht] at hl
            have : okR b = true := okR_iff.2 ⟨by omega, H4.out, by rw [HN.out]; unfold fromR; rw [HN.out]; omega⟩
            rw [hok] at this; cases this
          clear hm hok hst hf
          go_wp2_with fail
          refine Calls.mono (makeP_e (refpmake_any _ (chunksR b k) _ (SeqIn.at_ HCT.out)) HM.out) ?_
          rintro e w6 ⟨v, rfl, ha, hk6⟩
          have HK6 := Lib.hid (hK.out.call hk6 (Nat.le_refl _))
          clear ha hk6
          go_wp2_with fail
          go_ret3
          rw [HE.out]
          exact GiveR.err HK6.out
end Go.Proofs.Yteandjophamipaa
