/- The walk of the law FrameReads. -/
import Derived.Test.YtcapalofocmmoaaRfRead
namespace Go.Proofs.Ytcapalofocmmoaa
open Go.RowKit
theorem readF_shape (d : List UInt8) : ∃ ep gen k n b e, readF d = (frV ep gen k n b, e) := by
  unfold readF
  split
  · exact ⟨_, _, _, _, _, _, rfl⟩
  · exact ⟨_, _, _, _, _, _, rfl⟩
set_option maxRecDepth 100000 in
set_option maxHeartbeats 4000000 in
theorem freads_any (d : ByteArray) (w : World) (hd : d.size ≤ 140737488351232) : Calls Try.prog 9 #[.string d] w fun e w' => e = .returned (.bool true) ∧ Keeps w w' := by
  by_cases hbig : 5000 < d.size
  · have g1 : (5000 : Int) < (d.size : Int) := by omega
    have g2 : decide ((5000 : Int) < (d.size : Int)) = true := decide_eq_true g1
    clear hbig
    go_enter Try.func9, Try.ntmps9
    go_wp2_with fail
    go_ret
    exact ⟨rfl, keeps_refl _⟩
  have g1 : ¬ (5000 : Int) < (d.size : Int) := by omega
  have g2 : decide ((5000 : Int) < (d.size : Int)) = false := decide_eq_false g1
  have hds : d.size ≤ 5000 := by omega
  have HSM := Lib.hid (fun wx => refsum_any d wx (by omega))
  obtain ⟨X, hX⟩ : ∃ X, X = d ++ strB (SH.sumB d.data.toList) := ⟨_, rfl⟩
  have hs32 : (strB (SH.sumB d.data.toList)).size = 32 := by rw [strB_size, SH.sumB_length]
  have hXs : X.size ≤ 5032 := by rw [hX]; simp only [ByteArray.size_append]; omega
  have HX : Hid (d ++ strB (SH.sumB d.data.toList) = X) := hX.symm
  generalize strB (SH.sumB d.data.toList) = sm at *
  have HSZ : Hid (∀ x ∈ [d, X], x.size ≤ 5032) := fun x hx => by
    simp only [List.mem_cons, List.not_mem_nil, or_false] at hx
    rcases hx with rfl | rfl <;> omega
  clear hX hbig hd hXs
  go_enter Try.func9, Try.ntmps9
  go_wp2_with fail
  refine Calls.mono (HSM.out _) ?_
  rintro e w1 ⟨rfl, hk1⟩
  have q1 : (9223372036854775807 < d.size + sm.size) = False := eq_false (by omega)
  obtain ⟨w2, hw2⟩ : ∃ w2, w2 = w1.alloc (.cells #[.string d, .string X] 9) := ⟨_, rfl⟩
  have HT2 : Hid (TextsAt w2.heap (.slice (some ⟨w1.heap.size, 0, none⟩) 2 2) [d, X]) := by rw [hw2]; exact textsAt_lit w1 [d, X] 2 2 rfl (by omega)
  have HK2 : Hid (Keeps w w2) := by rw [hw2]; exact hk1.trans (kal _ _)
  rw [← HX.out] at hw2
  go_wp2_with fail
  rw [← hw2]
  clear hw2 hk1 q1 HSM
  generalize w1.heap.size = B at *
  go_loopw [19] (fun i wr => ∃ k : Nat, k ≤ 2 ∧ i = .int .i64 k ∧ Hid (Keeps w wr) ∧ Hid (TextsAt wr.heap (.slice (some ⟨B, 0, none⟩) 2 2) [d, X])) (fun i _ => 2 - (intOf i).toNat)
  case atStart => exact ⟨0, by omega, rfl, HK2.out, HT2.out⟩
  case round =>
    obtain ⟨k, hk, rfl, hK, hT⟩ := hrel
    by_cases hlt : k < 2
    · have i1 : (k : Int) < 2 := by omega
      have i0 : (0 : Int) ≤ (k : Int) := by omega
      obtain ⟨b', off, cp, u, e5, d1, r1⟩ := seq_cell hT.out (show k < [d, X].length from hlt)
      injection e5 with e6 e7 e8
      injection e6 with e6
      injection e6 with e6 e9
      subst e6 e8
      subst e9
      rw [Nat.zero_add] at d1
      unfold IsText at r1
      subst r1
      have hx := HSZ.out _ (List.getElem_mem (show k < [d, X].length from hlt))
      generalize [d, X][k] = x at *
      obtain ⟨ep, gen, kk, n, b, er, hr⟩ := readF_shape x.data.toList
      have HR1 := Lib.hid (fun wx => frread_any x wx (by omega))
      have HR2 := Lib.hid (fun wx => rfread_any x wx (by omega))
      rw [hr] at HR1 HR2
      unfold frV at HR1 HR2
      dsimp only at HR1 HR2
      clear hr
      go_wp2_with fail
      refine Calls.mono (HR1.out _) ?_
      rintro e w3 ⟨rfl, hk3⟩
      have HK3 := Lib.hid (hK.out.trans hk3)
      have HT3 := Lib.hid (SeqAt.keeps hT.out hk3)
      clear hk3 d1
      go_wp2_with (refine wpList_store_row rfl 47 (.tmp 5) (.tmp 26) rfl w3.heap.size (frA ep gen kk n b) rfl rfl 47 _ (heap_alloc_last w3 _) (by kernel_rfl) rfl (frA_one ep gen kk n b) ?_; rw [World.setRow_alloc_new])
      obtain ⟨w4, hw4⟩ : ∃ w4, w4 = w3.alloc (.cells (frA ep gen kk n b) 47) := ⟨_, rfl⟩
      rw [← hw4]
      have HK4 : Hid (Keeps w w4) := by rw [hw4]; exact HK3.out.trans (kal _ _)
      have HT4 : Hid (TextsAt w4.heap (.slice (some ⟨B, 0, none⟩) 2 2) [d, X]) := by rw [hw4]; exact SeqAt.keeps HT3.out (kal _ _)
      have HN4 : Hid (FrRow w4 w3.heap.size ep gen kk n b) := by show _ = _; rw [hw4]; exact heap_alloc_new _ _
      clear hw4 HK3 HT3
      generalize w3.heap.size = N4 at *
      go_wp2_with fail
      refine Calls.mono (HR2.out _) ?_
      rintro e w5 ⟨rfl, hk5⟩
      have HK5 := Lib.hid (HK4.out.trans hk5)
      have HT5 := Lib.hid (SeqAt.keeps HT4.out hk5)
      have HN5 : Hid (FrRow w5 N4 ep gen kk n b) := HN4.out.keeps hk5
      clear hk5 HK4 HT4 HN4
      obtain ⟨w6, hw6⟩ : ∃ w6, w6 = w5.alloc (.cells (frA ep gen kk n b) 50) := ⟨_, rfl⟩
      have HK6 : Hid (Keeps w w6) := by rw [hw6]; exact HK5.out.trans (kal _ _)
      have HT6 : Hid (TextsAt w6.heap (.slice (some ⟨B, 0, none⟩) 2 2) [d, X]) := by rw [hw6]; exact SeqAt.keeps HT5.out (kal _ _)
      have HN6 : Hid (FrRow w6 N4 ep gen kk n b) := by rw [hw6]; exact HN5.out.keeps (kal _ _)
      have HM6 : Hid (RfRow w6 w5.heap.size ep gen kk n b) := by show _ = _; rw [hw6]; exact heap_alloc_new _ _
      clear HK5 HT5 HN5
      have c0 : w6.cell? ⟨N4, 0, none⟩ = some (.int .i64 ep) := cell_of_row w6 N4 0 _ _ _ HN6.out
      have c1 : w6.cell? ⟨N4, 1, none⟩ = some (.int .i64 gen) := cell_of_row w6 N4 1 _ _ _ HN6.out
      have c2 : w6.cell? ⟨N4, 2, none⟩ = some (.int .i64 kk) := cell_of_row w6 N4 2 _ _ _ HN6.out
      have c3 : w6.cell? ⟨N4, 3, none⟩ = some (.int .i64 n) := cell_of_row w6 N4 3 _ _ _ HN6.out
      have c4 : w6.cell? ⟨N4, 4, none⟩ = some (.string b) := cell_of_row w6 N4 4 _ _ _ HN6.out
      have f0 : w6.cell? ⟨w5.heap.size, 0, none⟩ = some (.int .i64 ep) := cell_of_row w6 w5.heap.size 0 _ _ _ HM6.out
      have f1 : w6.cell? ⟨w5.heap.size, 1, none⟩ = some (.int .i64 gen) := cell_of_row w6 w5.heap.size 1 _ _ _ HM6.out
      have f2 : w6.cell? ⟨w5.heap.size, 2, none⟩ = some (.int .i64 kk) := cell_of_row w6 w5.heap.size 2 _ _ _ HM6.out
      have f3 : w6.cell? ⟨w5.heap.size, 3, none⟩ = some (.int .i64 n) := cell_of_row w6 w5.heap.size 3 _ _ _ HM6.out
      have f4 : w6.cell? ⟨w5.heap.size, 4, none⟩ = some (.string b) := cell_of_row w6 w5.heap.size 4 _ _ _ HM6.out
      subst hw6
      have q1 : (b.toList == b.toList) = true := by rw [txt_eq]; exact decide_eq_true rfl
      go_wp2_with (refine wpList_store_row rfl 50 (.tmp 7) (.tmp 31) rfl w5.heap.size (frA ep gen kk n b) rfl rfl 50 _ (heap_alloc_last w5 _) (by kernel_rfl) rfl (frA_one ep gen kk n b) ?_; rw [World.setRow_alloc_new])
      refine ⟨?_, by simp [intOf]; omega⟩
      first | exact ⟨k + 1, by omega, by go_num, HK6.out, HT6.out⟩ | ((repeat apply Exists.intro); exact ⟨by omega, by go_num, HK6.out, HT6.out⟩)
    · obtain rfl : k = 2 := by omega
      go_wp2_with fail
      go_ret
      exact ⟨rfl, hK.out⟩
end Go.Proofs.Ytcapalofocmmoaa
