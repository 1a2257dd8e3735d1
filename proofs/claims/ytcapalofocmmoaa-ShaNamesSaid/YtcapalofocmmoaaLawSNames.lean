/- The walk of the closed law ShaNames. -/
import Derived.Test.YtcapalofocmmoaaSTab
import Derived.Test.YtcapalofocmmoaaLawSApart
namespace Go.Proofs.Ytcapalofocmmoaa
open Go.RowKit
def badU : List ByteArray := [⟨#[48]⟩, ⟨#[48, 103]⟩, ⟨#[103, 48]⟩, ⟨#[48, 65]⟩, ⟨#[32, 48]⟩, ⟨#[48, 48, 32]⟩]
theorem badU_un : ∀ s ∈ badU, unhexE s.data.toList = (⟨#[]⟩, 4) := by
  intro s hs
  simp only [badU, List.mem_cons, List.not_mem_nil, or_false] at hs
  rcases hs with rfl | rfl | rfl | rfl | rfl | rfl <;> decide +kernel
theorem un_a : unhexE (⟨#[]⟩ : ByteArray).data.toList = (⟨#[]⟩, 0) := by decide +kernel
theorem un_b : unhexE (⟨#[48, 97, 102, 102, 49, 48]⟩ : ByteArray).data.toList = (⟨#[10, 255, 16]⟩, 0) := by decide +kernel
set_option maxRecDepth 100000 in
set_option maxHeartbeats 4000000 in
theorem snames_any (w : World) : Calls Try.prog 6 #[] w fun e w' => e = .returned (.bool true) ∧ Keeps w w' := by
  go_enter Try.func6, Try.ntmps6
  go_wp2_with fail
  refine Calls.mono (sworks_any w) ?_
  rintro e w1 ⟨rfl, hk⟩
  have HK := Lib.hid hk
  clear hk
  go_wp2_with fail
  refine Calls.mono (begins_e w1 ex4 (by decide) (by decide) (by decide)) ?_
  rintro e w2 ⟨rfl, hk⟩
  have HK := Lib.hid (HK.out.trans hk)
  clear hk
  go_wp2_with fail
  refine Calls.mono (begins_e w2 ex5 (by decide) (by decide) (by decide)) ?_
  rintro e w3 ⟨rfl, hk⟩
  have HK := Lib.hid (HK.out.trans hk)
  clear hk
  go_wp2_with fail
  go_loopw [1] (fun i wr => ∃ n : Nat, 50 ≤ n ∧ n ≤ 70 ∧ i = .int .i64 n ∧ Hid (Keeps w wr)) (fun i _ => 70 - (intOf i).toNat)
  case atStart => exact ⟨50, by omega, by omega, rfl, HK.out⟩
  case round =>
    obtain ⟨n, h50, h70, rfl, hK⟩ := hrel
    clear HK
    by_cases hlt : n < 70
    · have g1 : (n : Int) < 70 := by omega
      go_wp2_with fail
      refine Calls.mono (hnew_m _) ?_
      rintro e w5 ⟨rfl, hm, hk⟩
      have HHN : Hid (w.heap.size ≤ _) := hK.out.size
      have HM := Lib.hid hm
      have HK5 := Lib.hid (hK.out.trans hk)
      clear hm hk hK
      generalize wr.heap.size = H at *
      go_wp2_with fail
      go_loopw [3] (fun j ws => ∃ k : Nat, k ≤ n ∧ j = .int .i64 k ∧ Hid (HashM ws H (List.replicate k 113)) ∧ Hid (Keeps w ws)) (fun j _ => n - (intOf j).toNat)
      case atStart => exact ⟨0, by omega, rfl, HM.out, HK5.out⟩
      case round =>
        obtain ⟨k, hk, rfl, hM, hK⟩ := hrel
        clear HM HK5
        by_cases hlt2 : k < n
        · have g2 : (k : Int) < (n : Int) := by omega
          go_wp2_with fail
          refine Calls.mono (hadd_e H (List.replicate k 113) ⟨#[113]⟩ (List.replicate (k + 1) 113) _ hM.out (by rw [List.length_replicate]; show k + 1 ≤ _; omega) (by rw [List.replicate_succ'])) ?_
          rintro e w6 ⟨rfl, hm, hc⟩
          have HM := Lib.hid hm
          have HK6 := Lib.hid (chg_new hc hK.out HHN.out)
          clear hm hc hM hK
          go_wp2_with fail
          refine ⟨?_, by simp [intOf]; omega⟩
          first | exact ⟨k + 1, by omega, by go_num, HM, HK6⟩ | ((repeat apply Exists.intro); exact ⟨⟨k + 1, by omega, by go_num, HM, HK6⟩, rfl⟩)
        · obtain rfl : k = n := by omega
          have hyy : ((strB (SH.sumB (List.replicate k 113))).toList == (strB (SH.sumB (List.replicate k 113))).toList) = true := by simp
          have hne : ((strB (SH.sumB (List.replicate k 113))).toList == (strB (SH.sumB (List.replicate (k + 1) 113))).toList) = false := by
            rw [strB_toList, strB_toList]
            exact beq_false_of_ne (q_apart k h50 hlt)
          have hl : Hid ((((List.replicate k (113 : UInt8)).length : Nat) : Int) = (k : Int)) := by show _ = _; rw [List.length_replicate]
          have hdt : ∀ j, (manyB j 113).data.toList = List.replicate j 113 := fun j => rfl
          have HDT := Lib.hid hdt
          clear hdt
          have HK := Lib.hid hK.out
          clear hK
          go_wp2_with fail
          refine Calls.mono (hsum_any H (List.replicate k 113) _ hM.out (by rw [List.length_replicate]; omega)) ?_
          rintro e w6 ⟨rfl, hk6⟩
          have HM := Lib.hid (hM.out.keeps hk6)
          have HK := Lib.hid (HK.out.trans hk6)
          clear hk6 hM
          go_wp2_with fail
          refine Calls.mono (many_any k 113 _ (by omega)) ?_
          rintro e w7 ⟨rfl, hk6⟩
          have HM := Lib.hid (HM.out.keeps hk6)
          have HK := Lib.hid (HK.out.trans hk6)
          clear hk6
          go_wp2_with fail
          refine Calls.mono (sum_e (manyB k 113) _ _ (by rw [manyB_sz]; omega) (HDT.out k)) ?_
          rintro e w8 ⟨rfl, hk6⟩
          have HM := Lib.hid (HM.out.keeps hk6)
          have HK := Lib.hid (HK.out.trans hk6)
          clear hk6
          go_wp2_with fail
          refine Calls.mono (hlen_any H _ _ HM.out) ?_
          rintro e w9 ⟨rfl, rfl⟩
          rw [hl.out]
          go_wp2_with fail
          refine Calls.mono (many_any k 113 _ (by omega)) ?_
          rintro e w10 ⟨rfl, hk6⟩
          have HK := Lib.hid (HK.out.trans hk6)
          clear hk6
          go_wp2_with fail
          refine Calls.mono (sum_e (manyB k 113) _ _ (by rw [manyB_sz]; omega) (HDT.out k)) ?_
          rintro e w11 ⟨rfl, hk6⟩
          have HK := Lib.hid (HK.out.trans hk6)
          clear hk6
          have hk1 : ((k : Int) + 1) = ((k + 1 : Nat) : Int) := by omega
          have HK1 := Lib.hid hk1
          clear hk1
          go_wp2_with fail
          rw [HK1.out]
          refine Calls.mono (many_any (k + 1) 113 _ (by omega)) ?_
          rintro e w12 ⟨rfl, hk6⟩
          have HK := Lib.hid (HK.out.trans hk6)
          clear hk6
          go_wp2_with fail
          refine Calls.mono (sum_e (manyB (k + 1) 113) _ _ (by rw [manyB_sz]; omega) (HDT.out (k + 1))) ?_
          rintro e w13 ⟨rfl, hk6⟩
          have HK := Lib.hid (HK.out.trans hk6)
          clear hk6
          go_wp2_with fail
          refine ⟨?_, by simp [intOf]; omega⟩
          first | exact ⟨k + 1, by omega, by omega, by go_num, HK⟩ | ((repeat apply Exists.intro); exact ⟨⟨k + 1, by omega, by omega, by go_num, HK⟩, rfl⟩)
    · obtain rfl : n = 70 := by omega
      have HK := Lib.hid hK.out
      clear hK
      generalize wr = w7 at *
      have HBD := Lib.hid (textsAt_lit w7 badU 6 6 rfl (by omega))
      have HK := Lib.hid (HK.out.trans (kal w7 (.cells ⟨badU.map (Value.string ·)⟩ 9)))
      have HS : Hid (∀ s ∈ badU, s.size ≤ 1000000) := by show ∀ s ∈ badU, s.size ≤ 1000000; decide
      go_wp2_with fail
      go_loopw [62] (fun i wr => ∃ k : Nat, k ≤ 6 ∧ i = .int .i64 k ∧ Hid (Keeps (w7.alloc (.cells ⟨badU.map (Value.string ·)⟩ 9)) wr)) (fun i _ => 6 - (intOf i).toNat)
      case atStart => exact ⟨0, by omega, rfl, keeps_refl _⟩
      case round =>
        obtain ⟨k, hk, rfl, hK⟩ := hrel
        by_cases hlt2 : k < 6
        · have i1 : (k : Int) < 6 := by omega
          have i0 : (0 : Int) ≤ (k : Int) := by omega
          obtain ⟨b, off, c, u, e5, d1, r1⟩ := seq_cell (SeqAt.keeps HBD.out hK.out) (show k < badU.length from hlt2)
          injection e5 with e6 e7 e8
          injection e6 with e6
          injection e6 with e9 e10 e11
          subst e9 e10
          unfold IsText at r1
          subst r1
          rw [Nat.zero_add] at d1
          have HR := Lib.hid (badU_un _ (List.getElem_mem (show k < badU.length from hlt2)))
          have HZ := Lib.hid (HS.out _ (List.getElem_mem (show k < badU.length from hlt2)))
          generalize badU[k] = s at *
          clear e7 e8 e11
          go_wp2_with fail
          refine Calls.mono (unhex_e s _ HZ.out HR.out) ?_
          rintro e w9 ⟨rfl, hk9⟩
          have HK9 := Lib.hid (hK.out.trans hk9)
          clear hk9
          go_wp2_with fail
          refine ⟨?_, by simp [intOf]; omega⟩
          first | exact ⟨k + 1, by omega, by go_num, HK9⟩ | ((repeat apply Exists.intro); exact ⟨⟨k + 1, by omega, by go_num, HK9⟩, rfl⟩)
        · obtain rfl : k = 6 := by omega
          have HK := Lib.hid (HK.out.trans hK.out)
          clear hK HBD
          have t0 : ((⟨#[]⟩ : ByteArray).toList == []) = true := by rw [toList_eq]; decide
          have t1 : ((⟨#[10, 255, 16]⟩ : ByteArray).toList == [10, 255, 16]) = true := by rw [toList_eq]; decide
          have t2 : ((strB (SH.sumB [])).toList == (strB (SH.sumB [])).toList) = true := by simp
          have hl32 : Hid ((strB (SH.sumB (⟨#[97]⟩ : ByteArray).data.toList)).size = 32) := by show _ = _; rw [strB_size, SH.sumB_length]
          go_wp2_with fail
          refine Calls.mono (unhex_e _ _ (by decide) un_a) ?_
          rintro e w9 ⟨rfl, hk9⟩
          have HK := Lib.hid (HK.out.trans hk9)
          clear hk9
          go_wp2_with fail
          refine Calls.mono (unhex_e _ _ (by decide) un_b) ?_
          rintro e w10 ⟨rfl, hk9⟩
          have HK := Lib.hid (HK.out.trans hk9)
          clear hk9
          go_wp2_with fail
          refine Calls.mono (hadd_nil ⟨#[97]⟩ _) ?_
          rintro e w11 ⟨rfl, rfl⟩
          go_wp2_with fail
          refine Calls.mono (hsum_nil _) ?_
          rintro e w12 ⟨rfl, hk9⟩
          have HK := Lib.hid (HK.out.trans hk9)
          clear hk9
          go_wp2_with fail
          refine Calls.mono (sum_e ⟨#[]⟩ [] _ (by decide) rfl) ?_
          rintro e w13 ⟨rfl, hk9⟩
          have HK := Lib.hid (HK.out.trans hk9)
          clear hk9
          go_wp2_with fail
          refine Calls.mono (hlen_nil _) ?_
          rintro e w14 ⟨rfl, rfl⟩
          go_wp2_with fail
          refine Calls.mono (hcopy_nil _) ?_
          rintro e w15 ⟨rfl, rfl⟩
          go_wp2_with fail
          refine Calls.mono (ssum_any ⟨#[97]⟩ _ (by decide)) ?_
          rintro e w16 ⟨rfl, hk9⟩
          have HK := Lib.hid (HK.out.trans hk9)
          clear hk9
          generalize strB (SH.sumB (⟨#[97]⟩ : ByteArray).data.toList) = y at *
          have hl := hl32.out
          go_wp2_with fail
          go_ret
          exact ⟨rfl, HK.out⟩
end Go.Proofs.Ytcapalofocmmoaa
