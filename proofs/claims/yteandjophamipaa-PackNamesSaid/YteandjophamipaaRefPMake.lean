/- The walk of the document's Make. -/
import Derived.Test.YteandjophamipaaPackMake
namespace Go.Proofs.Yteandjophamipaa
open Go.RowKit
theorem strB_data_append (r : List UInt8) (s : ByteArray) : strB r ++ s = strB (r ++ s.data.toList) := by
  rw [← strB_append, strB_data]
set_option maxRecDepth 100000 in
set_option maxHeartbeats 4000000 in
theorem refpmake_any (v : Value) (l : List ByteArray) (w : World) (h : TextsAt w.heap v l) : Calls Try.prog 16 #[v] w (GiveP w (makeP l)) := by
  obtain ⟨p, q, rfl⟩ := seq_shape h
  have H := Lib.hid h
  clear h
  cases hm : mayP l with
  | false =>
    have E : Hid (makeP l = (ByteArray.empty, [], 4)) := by show _ = _; unfold makeP; rw [hm]; rfl
    go_enter Try.func16, Try.ntmps16
    go_wp2_with fail
    refine Calls.mono (refpmay_e _ l _ H.out _ hm) ?_
    rintro e w1 ⟨rfl, hk⟩
    go_wp2
    go_ret3
    rw [E.out]
    exact GiveP.err hk
  | true =>
    have E : Hid (makeP l = (strB (blobP l), offsP l, 0)) := by show _ = _; unfold makeP; rw [hm]; rfl
    obtain ⟨s1, s2, s3, s4⟩ := mayP_small hm
    have HM := Lib.hid hm
    have HS4 := Lib.hid s4
    clear hm s4
    go_enter Try.func16, Try.ntmps16
    go_wp2_with fail
    refine Calls.mono (refpmay_e _ l _ H.out _ HM.out) ?_
    rintro e w1 ⟨rfl, hk⟩
    have HK := Lib.hid hk
    clear hk
    go_wp2_with fail
    refine Calls.mono (refnum_any l.length _ (by omega)) ?_
    rintro e w2 ⟨rfl, hk⟩
    have HK := Lib.hid (HK.out.call hk (Nat.le_refl _))
    clear hk
    go_wp2_with fail
    go_loopw [5, 6] (fun u i wr => ∃ k : Nat, k ≤ l.length ∧ i = .int .i64 k ∧ u = .string (strB ([112, 97, 107, 49] ++ num2 l.length ++ nums (l.take k))) ∧ Hid (Keeps w wr)) (fun _ i _ => l.length - (intOf i).toNat)
    case atStart => exact ⟨0, by omega, rfl, (by rw [List.take_zero]; show Value.string (strB [112, 97, 107, 49] ++ strB (num2 l.length)) = _; rw [strB_append]; simp [nums]), HK⟩
    case round =>
      obtain ⟨k, hk, rfl, rfl, hK⟩ := hrel
      by_cases hlt : k < l.length
      · have hlt64 : (k : Int) < (l.length : Int) := by omega
        have hk0 : (0 : Int) ≤ (k : Int) := by omega
        obtain ⟨b, off, c, u, e5, d1, r1⟩ := seq_cell (SeqAt.keeps H.out hK.out) hlt
        injection e5 with e6 e7 e8
        subst e6 e8
        unfold IsText at r1
        subst r1
        rw [← atP_get hlt] at d1
        have hsz := HS4.out k hlt
        have HNS : Hid (nums (l.take (k + 1)) = nums (l.take k) ++ num2 (atP l k).size) := by show _ = _; rw [take_snoc hlt, nums_snoc]
        have hnl : (nums (l.take k)).length ≤ 8192 := by rw [nums_length, List.length_take]; omega
        have hbz : (strB ([112, 97, 107, 49] ++ num2 l.length ++ nums (l.take k))).size ≤ 10000 := by rw [strB_size]; simp [num2]; omega
        clear e7
        generalize atP l k = s at *
        generalize hX : [112, 97, 107, 49] ++ num2 l.length ++ nums (l.take k) = X at *
        have HX := Lib.hid hX
        clear hX
        go_wp2_with fail
        refine Calls.mono (refnum_any s.size _ (by omega)) ?_
        rintro e w4 ⟨rfl, hk4⟩
        have HK4 := Lib.hid (hK.out.call hk4 (Nat.le_refl _))
        have hnz : (strB (num2 s.size)).size = 2 := by rw [strB_size]; rfl
        have HV : Hid (strB X ++ strB (num2 s.size) = strB ([112, 97, 107, 49] ++ num2 l.length ++ nums (l.take (k + 1)))) := by
          show _ = _
          rw [strB_append, HNS.out, ← List.append_assoc, HX.out]
        have hle : (strB X).size + (strB (num2 s.size)).size ≤ 9223372036854775807 := by omega
        clear hk4 hnz
        go_wp2_with fail
        exact ⟨⟨k + 1, by omega, by go_num, by rw [HV.out], HK4⟩, by simp [intOf]; omega⟩
      · obtain rfl : k = l.length := by omega
        have HBH : Hid (strB ([112, 97, 107, 49] ++ num2 l.length ++ nums (l.take l.length)) = strB (headP l ++ joinP (l.take 0))) := by show _ = _; rw [List.take_length, List.take_zero]; simp [headP, joinP]
        rw [HBH.out]
        obtain ⟨w5, rfl⟩ : ∃ w5 : World, w5 = wr := ⟨_, rfl⟩
        go_wp2_with fail
        go_loopw [5, 7, 8] (fun s u i wx => ∃ k : Nat, k ≤ l.length ∧ i = .int .i64 k ∧ s = .string (strB (headP l ++ joinP (l.take k))) ∧ Hid (OwnSeq w5.heap.size 3 IsInt wx u ((List.range k).map (offP l))) ∧ Hid (Keeps w5 wx)) (fun _ _ i _ => l.length - (intOf i).toNat)
        case atStart => exact ⟨0, by omega, rfl, rfl, OwnSeq.nil _ _ _ _, keeps_refl _⟩
        case round =>
          obtain ⟨k, hk, rfl, rfl, hO, hK5⟩ := hrel
          by_cases hlt : k < l.length
          · have hlt64 : (k : Int) < (l.length : Int) := by omega
            have hk0 : (0 : Int) ≤ (k : Int) := by omega
            obtain ⟨b, off, c, u, e5, d1, r1⟩ := seq_cell (SeqAt.keeps H.out (hK.out.call hK5.out (Nat.le_refl _))) hlt
            injection e5 with e6 e7 e8
            subst e6 e8
            unfold IsText at r1
            subst r1
            rw [← atP_get hlt] at d1
            have hsz := HS4.out k hlt
            have HJS : Hid (joinP (l.take (k + 1)) = joinP (l.take k) ++ (atP l k).data.toList) := by show _ = _; rw [take_snoc hlt, joinP_snoc]
            have hjl : (headP l ++ joinP (l.take k)).length ≤ 100000 := by
              rw [List.length_append, headP_length, joinP_length]
              have := total_le l k
              omega
            have hbz : (strB (headP l ++ joinP (l.take k))).size ≤ 100000 := by rw [strB_size]; exact hjl
            have hxe : ((strB (headP l ++ joinP (l.take k))).size : Int) = offP l k := by rw [strB_size]; exact off_len l k
            have HOS := Lib.hid (offs_succ l k)
            have hb1 := cell_lt d1
            have HCE : Hid (∀ wx, Keeps w wx → wx.cell? ⟨b, off + k, none⟩ = some (.string (atP l k))) := fun wx hx => by
              obtain ⟨u', d2, r2⟩ := seq_at (SeqAt.keeps H.out hx) hlt
              unfold IsText at r2
              rw [d2, r2, atP_get hlt]
            have HV : Hid (strB (headP l ++ joinP (l.take k)) ++ atP l k = strB (headP l ++ joinP (l.take (k + 1)))) := by
              show _ = _
              rw [strB_data_append, HJS.out, ← List.append_assoc]
            clear e7
            generalize atP l k = s at *
            generalize offP l k = x at *
            generalize strB (headP l ++ joinP (l.take k)) = B at *
            obtain ⟨us, hu1, hu2, hu3⟩ := hO.out
            have hul : us.length = k := by rw [hu2]; simp
            have HU := Lib.hid hu1
            have HL2 := Lib.hid hu2
            have HL3 := Lib.hid hul
            have H3 := Lib.hid hu3
            have hsz5 := hK5.out.size
            subst hxe
            clear hu1 hu2 hul hu3 hjl
            go_wp2_with (at_builtin; refine wp_app1 elInt rfl _ _ rfl w5.heap.size u7 us rfl (HU.out.alloc _) _ (.int .i64 (B.size : Int)) rfl ?c1 rfl ?c2 ?c3 ?_)
            case c1 => exact World.cell?_alloc_new _ _ _ _
            case c2 => have := HL3.out; omega
            case c3 => simp; omega
            intro v' w6 hown hchg
            have hpush : Hid (OwnSeq w5.heap.size 3 IsInt w6 v' ((List.range (k + 1)).map (offP l))) := by show OwnSeq _ _ _ _ _ _; rw [HOS.out]; exact OwnSeq.push (R := IsInt) HL2.out H3.out hown (fun _ _ _ x => x) rfl
            have hc6 : Chg (fun b => u7.ownBlock = some b) wr w6 := ((Chg.refl _ wr).alloc _).trans hchg
            have HK6 : Hid (Keeps w5 w6) := hK5.out.then (Chg.kept (hc6.mono (T' := fun b => w5.heap.size ≤ b) fun b _ hb => (own_block HU.out b hb).1) hsz5) (Nat.le_refl _)
            have d1 : w6.cell? ⟨b, off + k, none⟩ = some (.string s) := by
              exact HCE.out _ (hK.out.call HK6.out (Nat.le_refl _))
            clear hown hchg hc6
            go_wp2_with fail
            exact ⟨⟨k + 1, by omega, by go_num, by rw [HV.out], hpush, HK6⟩, by simp [intOf]; omega⟩
          · obtain rfl : k = l.length := by omega
            have HBL : Hid (strB (headP l ++ joinP (l.take l.length)) = strB (blobP l)) := by show _ = _; rw [List.take_length]; rfl
            rw [HBL.out]
            have hs1 := hK.out.size
            have HKE : Hid (Keeps w wr) := hK.out.call hK5.out (Nat.le_refl _)
            go_wp2
            go_ret3
            rw [E.out]
            exact ⟨_, rfl, SeqIn.mono (hO.out.seq (by simp; omega)) (fun b hb => Nat.le_trans hs1 hb) fun _ _ x => x, HKE.out⟩
end Go.Proofs.Yteandjophamipaa
