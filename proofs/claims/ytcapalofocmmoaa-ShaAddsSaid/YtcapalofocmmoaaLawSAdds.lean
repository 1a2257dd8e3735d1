/- The walk of the law ShaAdds. -/
import Derived.Test.YtcapalofocmmoaaLawSApart
import Derived.Test.YtcapalofocmmoaaRefSums
namespace Go.Proofs.Ytcapalofocmmoaa
open Go.RowKit
/-- Texts, one behind the other. -/
def catB (l : List ByteArray) : List UInt8 := l.flatMap fun s => s.data.toList
def totB (l : List ByteArray) : Nat := (l.map ByteArray.size).sum
theorem catB_length (l : List ByteArray) : (catB l).length = totB l := by
  induction l with
  | nil => rfl
  | cons s l ih =>
    show (s.data.toList ++ catB l).length = s.size + totB l
    rw [List.length_append, ih, data_size]
theorem catB_snoc (l : List ByteArray) (s : ByteArray) : catB (l ++ [s]) = catB l ++ s.data.toList := by unfold catB; simp
theorem totB_snoc (l : List ByteArray) (s : ByteArray) : totB (l ++ [s]) = totB l + s.size := by unfold totB; simp
theorem take_next {l : List ByteArray} {k : Nat} (h : k < l.length) : l.take (k + 1) = l.take k ++ [l[k]] := List.take_succ_eq_append_getElem h
theorem totB_take (l : List ByteArray) (k : Nat) : totB (l.take k) ≤ totB l := by
  have : totB l = totB (l.take k) + totB (l.drop k) := by
    conv => lhs; rw [← List.take_append_drop k l]
    unfold totB; rw [List.map_append, List.sum_append]
  omega
theorem rsum_e (s : ByteArray) (l : List UInt8) (w : World) (hs : s.size ≤ 1000000) (h : s.data.toList = l) : Calls Try.prog 19 #[.string s] w fun e w' => e = .returned (.string (strB (SH.sumB l))) ∧ Keeps w w' := by
  have := refsum_any s w hs
  rw [h] at this
  exact this
set_option maxRecDepth 100000 in
set_option maxHeartbeats 4000000 in
theorem sadds_any (v : Value) (l : List ByteArray) (w : World) (hl : SeqAt IsText w.heap v l) (hz : ∀ x ∈ l, x.size ≤ 140737488351232) : Calls Try.prog 3 #[v] w fun e w' => e = .returned (.bool true) ∧ Keeps w w' := by
  obtain ⟨pv, qv, rfl⟩ := seq_shape hl
  have hl63 : l.length ≤ 9223372036854775807 := let ⟨_, _, _, x, _⟩ := hl; x
  have HL := Lib.hid hl
  have HZ : Hid (∀ x ∈ l, x.size ≤ 140737488351232) := hz
  clear hl hz
  go_enter Try.func3, Try.ntmps3
  go_wp2_with fail
  go_loopw [3, 4] (fun n i wr => ∃ k c : Nat, k ≤ l.length ∧ c ≤ 140737488360000 ∧ i = .int .i64 k ∧ n = .int .i64 c ∧ Hid (c = totB (l.take k) + 100 * k) ∧ wr = w) (fun _ i _ => l.length - (intOf i).toNat)
  case atStart => exact ⟨0, 0, by omega, by omega, rfl, rfl, rfl, rfl⟩
  case round =>
    obtain ⟨k, c, hk, hc, rfl, rfl, hT, rfl⟩ := hrel
    by_cases hlt : k < l.length
    · have i1 : (k : Int) < (l.length : Int) := by omega
      have i0 : (0 : Int) ≤ (k : Int) := by omega
      by_cases hc4 : c < 4000
      · have g1 : (c : Int) < 4000 := by omega
        have g2 : decide ((c : Int) < 4000) = true := decide_eq_true g1
        obtain ⟨b, off, cp, u, e5, d1, r1⟩ := seq_cell HL.out hlt
        injection e5 with e6 e7 e8
        subst e6 e8
        unfold IsText at r1
        subst r1
        have hsz := HZ.out _ (List.getElem_mem hlt)
        have HT2 : Hid (c + l[k].size + 100 = totB (l.take (k + 1)) + 100 * (k + 1)) := by
          show _ = _
          rw [take_next hlt, totB_snoc, hT.out]; omega
        generalize l[k] = s at *
        clear e7
        go_wp2_with fail
        exact ⟨⟨k + 1, c + s.size + 100, by omega, by omega, by go_num, by go_num, HT2, by first | rfl | trivial⟩, by simp [intOf]; omega⟩
      · have g1 : 4000 ≤ (c : Int) := by omega
        have g2 : decide ((c : Int) < 4000) = false := decide_eq_false (by omega)
        go_wp2_with fail
        go_ret
        exact ⟨rfl, keeps_refl _⟩
    · obtain rfl : k = l.length := by omega
      by_cases hc4 : c < 4000
      · have g1 : (c : Int) < 4000 := by omega
        have g2 : decide (4000 ≤ (c : Int)) = false := decide_eq_false (by omega)
        have HTL : Hid (totB l + 100 * l.length < 4000) := by show _ < _; have := hT.out; rw [List.take_length] at this; omega
        clear hT hk hlt
        go_wp2_with fail
        refine Calls.mono (hnew_m _) ?_
        rintro e w2 ⟨rfl, hm, hk⟩
        have HHN : Hid (wr.heap.size ≤ wr.heap.size) := Nat.le_refl _
        have HK := Lib.hid hk
        have HM := Lib.hid hm
        clear hm hk
        obtain ⟨H, hH⟩ : ∃ H, H = wr.heap.size := ⟨_, rfl⟩
        have HHN : Hid (wr.heap.size ≤ H) := by show _ ≤ _; rw [hH]; exact Nat.le_refl _
        rw [← hH] at HM ⊢
        clear hH
        obtain ⟨w0, hw0⟩ : ∃ w0, w0 = wr := ⟨_, rfl⟩
        rw [← hw0] at HK HHN HL
        have HW0 := Lib.hid hw0
        clear hw0
        go_wp2_with fail
        go_loopw [6, 7] (fun t i wx => ∃ k : Nat, k ≤ l.length ∧ i = .int .i64 k ∧ t = .string (strB (catB (l.take k))) ∧ Hid (HashM wx H (catB (l.take k))) ∧ Hid (Keeps w0 wx)) (fun _ i _ => l.length - (intOf i).toNat)
        case atStart => exact ⟨0, by omega, rfl, rfl, HM.out, HK.out⟩
        case round =>
          obtain ⟨k, hk, rfl, rfl, hM, hK⟩ := hrel
          have HCL : Hid ((catB (l.take k)).length ≤ 4000) := by
            show _ ≤ _
            have h1 := totB_take l k
            have h2 := HTL.out
            rw [catB_length]; omega
          clear HM HK
          by_cases hlt : k < l.length
          · have i1 : (k : Int) < (l.length : Int) := by omega
            have i0 : (0 : Int) ≤ (k : Int) := by omega
            have HC1 : Hid ((catB (l.take (k + 1))).length ≤ 4000) := by
              show _ ≤ _
              have h1 := totB_take l (k + 1)
              have h2 := HTL.out
              rw [catB_length]; omega
            have HCS : Hid (catB (l.take (k + 1)) = catB (l.take k) ++ l[k].data.toList) := by show _ = _; rw [take_next hlt, catB_snoc]
            have hsz := HZ.out _ (List.getElem_mem hlt)
            obtain ⟨b, off, cp, u, e5, d1, r1⟩ := seq_cell HL.out hlt
            injection e5 with e6 e7 e8
            subst e6 e8
            unfold IsText at r1
            subst r1
            have HCELL : Hid (∀ wx : World, Keeps w0 wx → wx.cell? ⟨b, off + k, none⟩ = some (.string l[k])) := fun wx h => keeps_cell h d1
            generalize l[k] = s at *
            clear e7 d1
            generalize hX : catB (l.take k) = X at *
            generalize hY : catB (l.take (k + 1)) = Y at *
            have HYE := Lib.hid hY
            clear hX hY
            have hXl : X.length ≤ 4000 := HCL.out
            have hYl : Y.length ≤ 4000 := HC1.out
            have hss : s.size ≤ 4000 := by
              have := congrArg List.length HCS.out
              rw [List.length_append, data_size] at this; omega
            have sX : (strB X).size ≤ 4000 := by rw [strB_size]; exact hXl
            have hyX : ((strB (SH.sumB X)).toList == (strB (SH.sumB X)).toList) = true := by simp
            have hyY : ((strB (SH.sumB Y)).toList == (strB (SH.sumB Y)).toList) = true := by simp
            have HAP : Hid (strB X ++ s = strB Y) := by
              show _ = _
              rw [HCS.out, ← strB_append, strB_data]
            have HXL : Hid (((X ++ [63] : List UInt8).length : Int) = ((strB X).size : Int) + 1) := by show _ = _; rw [List.length_append, strB_size]; rfl
            have HYL : Hid ((Y.length : Int) = ((strB Y).size : Int)) := by show _ = _; rw [strB_size]
            go_wp2_with fail
            refine Calls.mono (hcopy_any H X _ hM.out) ?_
            rintro e w3 ⟨rfl, hm, hk3⟩
            have hz0 : Hid (w0.heap.size ≤ _) := hK.out.size
            have hne : Hid (H ≠ _) := Nat.ne_of_lt (HashR.lt hM.out)
            have HT : Hid (Two w0 H _ X X w3) := ⟨hM.out.keeps hk3, hm, hK.out.trans hk3⟩
            clear hm hk3 hM
            obtain ⟨C, hC⟩ : ∃ C, C = wr.heap.size := ⟨_, rfl⟩
            rw [← hC] at hz0 hne HT ⊢
            clear hC
            have d3 := HCELL.out _ HT.out.kept
            go_wp2_with fail
            refine Calls.mono (hadd_e H X s Y _ HT.out.one (by omega) HCS.out.symm) ?_
            rintro e wx0 ⟨rfl, hm, hc⟩
            have HT := Lib.hid (HT.out.add hm hc hne.out HHN.out)
            clear hm hc d3
            go_wp2_with fail
            refine Calls.mono (hsum_any C X _ HT.out.two (by omega)) ?_
            rintro e wx1 ⟨rfl, hk⟩
            have HT := Lib.hid (HT.out.keeps hk)
            clear hk
            go_wp2_with fail
            refine Calls.mono (rsum_e (strB X) X _ (by omega) rfl) ?_
            rintro e wx2 ⟨rfl, hk⟩
            have HT := Lib.hid (HT.out.keeps hk)
            clear hk
            go_wp2_with fail
            refine Calls.mono (hadd_e C X ⟨#[63]⟩ (X ++ [63]) _ HT.out.two (by show X.length + 1 ≤ _; omega) rfl) ?_
            rintro e wx3 ⟨rfl, hm, hc⟩
            have HT := Lib.hid (HT.out.add' hm hc hne.out hz0.out)
            clear hm hc
            go_wp2_with fail
            refine Calls.mono (hlen_any C (X ++ [63]) _ HT.out.two) ?_
            rintro e wy ⟨rfl, rfl⟩
            rw [HXL.out]
            have d5 := HCELL.out _ HT.out.kept
            go_wp2_with fail
            rw [HAP.out]
            clear d5
            refine Calls.mono (hsum_any H Y _ HT.out.one (by omega)) ?_
            rintro e wx4 ⟨rfl, hk⟩
            have HT := Lib.hid (HT.out.keeps hk)
            clear hk
            go_wp2_with fail
            refine Calls.mono (rsum_e (strB Y) Y _ (by rw [strB_size]; omega) rfl) ?_
            rintro e wx5 ⟨rfl, hk⟩
            have HT := Lib.hid (HT.out.keeps hk)
            clear hk
            go_wp2_with fail
            refine Calls.mono (hlen_any H Y _ HT.out.one) ?_
            rintro e wz ⟨rfl, rfl⟩
            rw [HYL.out]
            go_wp2_with fail
            have HMF := Lib.hid HT.out.one
            have HKF := Lib.hid HT.out.kept
            rw [← HYE.out] at HMF
            refine ⟨?_, by simp [intOf]; omega⟩
            first | exact ⟨k + 1, by omega, by go_num, by rw [HYE.out], HMF, HKF⟩ | ((repeat apply Exists.intro); exact ⟨⟨k + 1, by omega, by go_num, by rw [HYE.out], HMF, HKF⟩, rfl⟩)
          · obtain rfl : k = l.length := by omega
            generalize catB (l.take l.length) = X at *
            have hXl : X.length ≤ 4000 := HCL.out
            have hyX : ((strB (SH.sumB X)).toList == (strB (SH.sumB X)).toList) = true := by simp
            have HK := hK
            go_wp2_with fail
            refine Calls.mono (hsum_any H X _ hM.out (by omega)) ?_
            rintro e wx6 ⟨rfl, hk⟩
            have HK := Lib.hid (HK.out.trans hk)
            clear hk
            go_wp2_with fail
            refine Calls.mono (rsum_e (strB X) X _ (by rw [strB_size]; omega) rfl) ?_
            rintro e wx7 ⟨rfl, hk⟩
            have HK := Lib.hid (HK.out.trans hk)
            clear hk
            go_wp2_with fail
            go_ret
            exact ⟨rfl, by rw [← HW0.out]; exact HK.out⟩
      · have g1 : 4000 ≤ (c : Int) := by omega
        have g2 : decide (4000 ≤ (c : Int)) = true := decide_eq_true g1
        go_wp2_with fail
        go_ret
        exact ⟨rfl, keeps_refl _⟩
end Go.Proofs.Ytcapalofocmmoaa
