/- The walk of what package strongboxlaw11 asks first: works. -/
import Derived.Test.YtcapalofocmmoaaFrLaw
import Derived.Test.YtcapalofocmmoaaStageF
namespace Go.Proofs.Ytcapalofocmmoaa
open Go.RowKit
theorem make_ex1 : makeF 1 2 2 3 ⟨#[120]⟩ = (strB (sealF (textF 1 2 2 3 [120])), 0) := makeF_yes (ep := 1) (gen := 2) (k := 2) (n := 3) (body := [120]) (by decide) (by decide)
theorem make_ex2 : makeF 1 2 3 2 ⟨#[120]⟩ = (⟨#[]⟩, 1) := rfl
theorem short_no {d : List UInt8} (h : d.length < 50) : readF d = (frV 0 0 0 0 ⟨#[]⟩, 4) := by
  apply readF_no
  cases e : readOk d with
  | false => rfl
  | true =>
    obtain ⟨ep, gen, k, n, body, hm, hl, rfl⟩ := readOk_is e
    rw [sealF_length, textF_length] at h
    omega
def frw4 (S T U : List UInt8) : Nat → Value → Prop
  | i, v => v = ([.int .i64 0, .bool true, .bool true, .string (strB S), .int .i64 51, .bool true, .bool true, .bool true, .string (strB S), .string (strB T), .bool true, .bool true, .bool true, .string (strB S), .string (strB U), .string (strB S), .string (strB T), .string (strB U), .bool true, .bool true, .bool true, .int .i64 1, .bool true, .bool true, .bool true, .int .i64 4, .bool true, .bool true, .bool true, .agg #[.int .i64 1, .int .i64 9], .agg #[.int .i64 2, .int .i64 0], .bool true, .bool true, .bool true] : List Value).getD i undef
set_option maxRecDepth 100000 in
set_option maxHeartbeats 4000000 in
theorem frworks_any (w : World) : Calls Try.prog 35 #[] w fun e w' => e = .returned (.bool true) ∧ Keeps w w' := by
  have HO1 := Lib.hid (frof_any 1 2 2 3 ⟨#[120]⟩)
  have HO2 := Lib.hid (frof_any 1 2 3 2 ⟨#[120]⟩)
  have HM1 := Lib.hid (fun wx => frmake_any 1 2 2 3 ⟨#[120]⟩ wx (by decide))
  have HM2 := Lib.hid (fun wx => frmake_any 1 2 3 2 ⟨#[120]⟩ wx (by decide))
  rw [make_ex1] at HM1
  rw [make_ex2] at HM2
  obtain ⟨S, hS⟩ : ∃ S, S = sealF (textF 1 2 2 3 [120]) := ⟨_, rfl⟩
  have hl : S.length = 51 := by rw [hS, sealF_length, textF_length]; rfl
  have ht : S.take 19 = [109, 97, 110, 49, 0, 0, 0, 1, 0, 0, 0, 2, 2, 3, 0, 0, 0, 1, 120] := by rw [hS]; unfold sealF; exact List.take_left' rfl
  have hd : S.drop 19 = SH.sumB (S.take 19) := by rw [ht, hS]; unfold sealF; exact List.drop_left' rfl
  have HR17 := Lib.hid (fun wx => frread_any (strB (S.take 17)) wx (by rw [strB_size, List.length_take]; omega))
  rw [show (strB (S.take 17)).data.toList = S.take 17 from rfl, short_no (by rw [List.length_take]; omega)] at HR17
  have HSU := Lib.hid (fun wx => ssum_any (strB (S.take 19)) wx (by rw [strB_size, List.length_take]; omega))
  rw [show (strB (S.take 19)).data.toList = S.take 19 from rfl, ← hd] at HSU
  have HLS := Lib.hid (frless_any 1 9 2 0)
  rw [show lessF 1 9 2 0 = true by decide] at HLS
  have hs : (strB S).size = 51 := by rw [strB_size]; exact hl
  have HS : Hid (((strB S).size : Int) = 51) := by show _ = _; omega
  have HX17 : Hid ((strB S).extract 0 (min (17 : Int) 51).toNat = strB (S.take 17)) := by
    show _ = _
    rw [show (min (17 : Int) 51).toNat = 17 by decide, ext_take]; rfl
  have RF19 : Hid (∀ wx : World, (Instr.slice 9 (.string (strB S)) none (some (.int .i64 19)) none).run Try.prog wx = .ok (.string (strB (S.take 19))) wx) := str_front (strB S) 19 (by omega)
  have RB19 : Hid (∀ wx : World, (Instr.slice 9 (.string (strB S)) (some (.int .i64 19)) none none).run Try.prog wx = .ok (.string (strB (S.drop 19))) wx) := str_back (strB S) 19 (by omega)
  have Q19 : Hid (((strB (S.take 19)).toList == [109, 97, 110, 49, 0, 0, 0, 1, 0, 0, 0, 2, 2, 3, 0, 0, 0, 1, 120]) = true) := by show _ = _; rw [strB_toList, ht]; rfl
  rw [← hS] at HM1
  unfold stV at HLS
  unfold frV at HO1 HO2 HM1 HM2 HR17
  clear ht hd hS hl
  generalize S.take 17 = V at *
  generalize S.take 19 = T at *
  generalize S.drop 19 = U at *
  go_enter Try.func35, Try.ntmps35
  go_wp2_with fail
  refine Calls.mono (HO1.out _) ?_
  rintro e w1 ⟨rfl, hk1⟩
  go_wp2_with fail
  refine Calls.mono (HM1.out _) ?_
  rintro e w2 ⟨rfl, hk2⟩
  have HK2 := Lib.hid (hk1.trans hk2)
  clear hk1 hk2
  go_wp2_with fail
  refine Calls.mono (HO2.out _) ?_
  rintro e w3 ⟨rfl, hk1⟩
  go_wp2_with fail
  refine Calls.mono (HM2.out _) ?_
  rintro e w4 ⟨rfl, hk2⟩
  have HK4 := Lib.hid ((HK2.out.trans hk1).trans hk2)
  clear hk1 hk2 HK2
  have hsi := HS.out
  go_wp2_with fail
  rw [HX17.out]
  refine Calls.mono (HR17.out _) ?_
  rintro e w5 ⟨rfl, hk1⟩
  have HK5 := Lib.hid (HK4.out.trans hk1)
  clear hk1 HK4 hsi HX17
  obtain ⟨w6, hw6⟩ : ∃ w6, w6 = w5.alloc (.cells (frA 0 0 0 0 ⟨#[]⟩) 47) := ⟨_, rfl⟩
  have HK6 : Hid (Keeps w w6) := by rw [hw6]; exact HK5.out.trans (kal _ _)
  go_wp2_with (refine wpList_store_row rfl 47 (.tmp 5) (.tmp 24) rfl w5.heap.size (frA 0 0 0 0 ⟨#[]⟩) rfl rfl 47 _ (heap_alloc_last w5 _) (by kernel_rfl) rfl (frA_one 0 0 0 0 ⟨#[]⟩) ?_; rw [World.setRow_alloc_new])
  rw [← hw6]
  clear hw6
  generalize w5.heap.size = N5 at *
  refine wp_region_stage [26, 27, 28, 29, 30, 31, 32, 33, 34, 35, 36, 37, 38, 39, 40, 41, 42, 43, 44, 45, 46, 47, 48, 49, 50, 51, 52, 53, 54, 55, 56, 57, 58, 0] [[], [0], [1], [2], [2, 3], [2, 4], [2, 5], [6], [7], [7, 8], [7, 9], [7, 10], [11], [12], [12, 13], [12], [12, 15], [12, 16], [12, 14, 17], [12, 18], [19], [20], [20, 21], [20, 22], [23], [24], [24, 25], [24, 26], [27], [28], [28], [28, 29, 30], [28, 31], [32]] [] [0, 0, 0, 0, 0, 0, 0, 0, 0, 0, 0, 0, 0, 0, 0, 0, 0, 0, 0, 0, 0, 0, 0, 0, 0, 0, 0, 0, 0, 0, 0, 0, 0, 0] [] (fun i v _ => frw4 S T U i v) (fun w w' => Keeps w w') (fun _ _ w' => Keeps w6 w') (by kernel_rfl) (by kernel_rfl) (by kernel_rfl) (by kernel_rfl) (by kernel_rfl) (by kernel_rfl) (by kernel_rfl) ?_ ?_ ?_ ?_ ?_ ?_ ?_
  · exact fun i v w w' c h => h
  · exact fun w => keeps_refl w
  · exact fun i s vs w _ h => h
  · refine ⟨?_, ?_, ?_, ?_, ?_, ?_, ?_, ?_, ?_, ?_, ?_, ?_, ?_, ?_, ?_, ?_, ?_, ?_, ?_, ?_, ?_, ?_, ?_, ?_, ?_, ?_, ?_, ?_, ?_, ?_, ?_, ?_, ?_, ?_, trivial⟩
    · exact fun g b h => by (cases h)
    · exact fun g b h => by (cases h)
    · exact fun g b h => by (cases h)
    · exact fun g b h => by (cases h; exact ⟨by decide, fun v w h => h⟩)
    · exact fun g b h => by (cases h; exact ⟨by decide, fun v w h => h⟩)
    · exact fun g b h => by (cases h; exact ⟨by decide, fun v w h => h⟩)
    · exact fun g b h => by (cases h)
    · exact fun g b h => by (cases h)
    · exact fun g b h => by (cases h; exact ⟨by decide, fun v w h => h⟩)
    · exact fun g b h => by (cases h; exact ⟨by decide, fun v w h => h⟩)
    · exact fun g b h => by (cases h; exact ⟨by decide, fun v w h => h⟩)
    · exact fun g b h => by (cases h)
    · exact fun g b h => by (cases h)
    · exact fun g b h => by (cases h; exact ⟨by decide, fun v w h => h⟩)
    · exact fun g b h => by (cases h; exact ⟨by decide, fun v w h => h⟩)
    · exact fun g b h => by (cases h; exact ⟨by decide, fun v w h => h⟩)
    · exact fun g b h => by (cases h; exact ⟨by decide, fun v w h => h⟩)
    · exact fun g b h => by (cases h; exact ⟨by decide, fun v w h => h⟩)
    · exact fun g b h => by (cases h; exact ⟨by decide, fun v w h => h⟩)
    · exact fun g b h => by (cases h)
    · exact fun g b h => by (cases h)
    · exact fun g b h => by (cases h; exact ⟨by decide, fun v w h => h⟩)
    · exact fun g b h => by (cases h; exact ⟨by decide, fun v w h => h⟩)
    · exact fun g b h => by (cases h)
    · exact fun g b h => by (cases h)
    · exact fun g b h => by (cases h; exact ⟨by decide, fun v w h => h⟩)
    · exact fun g b h => by (cases h; exact ⟨by decide, fun v w h => h⟩)
    · exact fun g b h => by (cases h)
    · exact fun g b h => by (cases h)
    · exact fun g b h => by (cases h; exact ⟨by decide, fun v w h => h⟩)
    · exact fun g b h => by (cases h; exact ⟨by decide, fun v w h => h⟩)
    · exact fun g b h => by (cases h; exact ⟨by decide, fun v w h => h⟩)
    · exact fun g b h => by (cases h)
    · exact fun g b h => by (cases h)
  · exact fun _ _ => keeps_refl w6
  · refine ⟨?_, ?_, ?_, ?_, ?_, ?_, ?_, ?_, ?_, ?_, ?_, ?_, ?_, ?_, ?_, ?_, ?_, ?_, ?_, ?_, ?_, ?_, ?_, ?_, ?_, ?_, ?_, ?_, ?_, ?_, ?_, ?_, ?_, ?_, trivial⟩
    · intro _ a w1 vs hI ho hn hu K hK
      have e2 : a.tmps[2]? = some (.int .i64 0) := ho 2 rfl
      clear hn ho hu
      go_simp
      exact hK _ _ (keeps_refl _) hI rfl
    · intro _ a w1 vs hI ho hn hu K hK
      obtain ⟨e26, g26⟩ : a.tmps[26]? = some (vs 0) ∧ vs 0 = .int .i64 0 := hn 0 (by decide)
      rw [g26] at e26
      clear g26
      clear hn ho hu
      go_simp
      exact hK _ _ (keeps_refl _) hI rfl
    · intro _ a w1 vs hI ho hn hu K hK
      obtain ⟨e27, g27⟩ : a.tmps[27]? = some (vs 1) ∧ vs 1 = .bool true := hn 1 (by decide)
      rw [g27] at e27
      clear g27
      clear hn ho hu
      go_simp
      exact hK _ _ (keeps_refl _) hI rfl
    · intro _ a w1 vs hI ho hn hu K hK
      have e1 : a.tmps[1]? = some (.string (strB S)) := ho 1 rfl
      clear hn ho hu
      go_simp
      exact hK _ _ (keeps_refl _) hI rfl
    · intro _ a w1 vs hI ho hn hu K hK
      obtain ⟨e29, g29⟩ : a.tmps[29]? = some (vs 3) ∧ vs 3 = .string (strB S) := hn 3 (by decide)
      rw [g29] at e29
      clear g29
      clear hn ho hu
      have c := HS.out
      go_simp
      exact hK _ _ (keeps_refl _) hI rfl
    · intro _ a w1 vs hI ho hn hu K hK
      obtain ⟨e30, g30⟩ : a.tmps[30]? = some (vs 4) ∧ vs 4 = .int .i64 51 := hn 4 (by decide)
      rw [g30] at e30
      clear g30
      clear hn ho hu
      go_simp
      exact hK _ _ (keeps_refl _) hI rfl
    · intro _ a w1 vs hI ho hn hu K hK
      obtain ⟨e28, g28⟩ : a.tmps[28]? = some (vs 2) ∧ vs 2 = .bool true := hn 2 (by decide)
      rw [g28] at e28
      clear g28
      obtain ⟨e31, g31⟩ : a.tmps[31]? = some (vs 5) ∧ vs 5 = .bool true := hn 5 (by decide)
      rw [g31] at e31
      clear g31
      clear hn ho hu
      go_simp
      exact hK _ _ (keeps_refl _) hI rfl
    · intro _ a w1 vs hI ho hn hu K hK
      obtain ⟨e32, g32⟩ : a.tmps[32]? = some (vs 6) ∧ vs 6 = .bool true := hn 6 (by decide)
      rw [g32] at e32
      clear g32
      clear hn ho hu
      go_simp
      exact hK _ _ (keeps_refl _) hI rfl
    · intro _ a w1 vs hI ho hn hu K hK
      have e1 : a.tmps[1]? = some (.string (strB S)) := ho 1 rfl
      clear hn ho hu
      go_simp
      exact hK _ _ (keeps_refl _) hI rfl
    · intro _ a w1 vs hI ho hn hu K hK
      obtain ⟨e34, g34⟩ : a.tmps[34]? = some (vs 8) ∧ vs 8 = .string (strB S) := hn 8 (by decide)
      rw [g34] at e34
      clear g34
      clear hn ho hu
      have c := RF19.out
      go_simp
      exact hK _ _ (keeps_refl _) hI rfl
    · intro _ a w1 vs hI ho hn hu K hK
      obtain ⟨e35, g35⟩ : a.tmps[35]? = some (vs 9) ∧ vs 9 = .string (strB T) := hn 9 (by decide)
      rw [g35] at e35
      clear g35
      clear hn ho hu
      have c := Q19.out
      go_simp
      exact hK _ _ (keeps_refl _) hI rfl
    · intro _ a w1 vs hI ho hn hu K hK
      obtain ⟨e33, g33⟩ : a.tmps[33]? = some (vs 7) ∧ vs 7 = .bool true := hn 7 (by decide)
      rw [g33] at e33
      clear g33
      obtain ⟨e36, g36⟩ : a.tmps[36]? = some (vs 10) ∧ vs 10 = .bool true := hn 10 (by decide)
      rw [g36] at e36
      clear g36
      clear hn ho hu
      go_simp
      exact hK _ _ (keeps_refl _) hI rfl
    · intro _ a w1 vs hI ho hn hu K hK
      obtain ⟨e37, g37⟩ : a.tmps[37]? = some (vs 11) ∧ vs 11 = .bool true := hn 11 (by decide)
      rw [g37] at e37
      clear g37
      clear hn ho hu
      go_simp
      exact hK _ _ (keeps_refl _) hI rfl
    · intro _ a w1 vs hI ho hn hu K hK
      have e1 : a.tmps[1]? = some (.string (strB S)) := ho 1 rfl
      clear hn ho hu
      go_simp
      exact hK _ _ (keeps_refl _) hI rfl
    · intro _ a w1 vs hI ho hn hu K hK
      obtain ⟨e39, g39⟩ : a.tmps[39]? = some (vs 13) ∧ vs 13 = .string (strB S) := hn 13 (by decide)
      rw [g39] at e39
      clear g39
      clear hn ho hu
      have c := RB19.out
      go_simp
      exact hK _ _ (keeps_refl _) hI rfl
    · intro _ a w1 vs hI ho hn hu K hK
      have e1 : a.tmps[1]? = some (.string (strB S)) := ho 1 rfl
      clear hn ho hu
      go_simp
      exact hK _ _ (keeps_refl _) hI rfl
    · intro _ a w1 vs hI ho hn hu K hK
      obtain ⟨e41, g41⟩ : a.tmps[41]? = some (vs 15) ∧ vs 15 = .string (strB S) := hn 15 (by decide)
      rw [g41] at e41
      clear g41
      clear hn ho hu
      have c := RF19.out
      go_simp
      exact hK _ _ (keeps_refl _) hI rfl
    · intro _ a w1 vs hI ho hn hu K hK
      obtain ⟨e42, g42⟩ : a.tmps[42]? = some (vs 16) ∧ vs 16 = .string (strB T) := hn 16 (by decide)
      rw [g42] at e42
      clear g42
      clear hn ho hu
      go_simp
      refine Calls.mono (HSU.out _) ?_
      rintro e w' ⟨rfl, hk2⟩
      go_simp
      exact hK _ _ hk2 (Keeps.trans hI hk2) rfl
    · intro _ a w1 vs hI ho hn hu K hK
      obtain ⟨e40, g40⟩ : a.tmps[40]? = some (vs 14) ∧ vs 14 = .string (strB U) := hn 14 (by decide)
      rw [g40] at e40
      clear g40
      obtain ⟨e43, g43⟩ : a.tmps[43]? = some (vs 17) ∧ vs 17 = .string (strB U) := hn 17 (by decide)
      rw [g43] at e43
      clear g43
      clear hn ho hu
      go_simp
      exact hK _ _ (keeps_refl _) hI rfl
    · intro _ a w1 vs hI ho hn hu K hK
      obtain ⟨e38, g38⟩ : a.tmps[38]? = some (vs 12) ∧ vs 12 = .bool true := hn 12 (by decide)
      rw [g38] at e38
      clear g38
      obtain ⟨e44, g44⟩ : a.tmps[44]? = some (vs 18) ∧ vs 18 = .bool true := hn 18 (by decide)
      rw [g44] at e44
      clear g44
      clear hn ho hu
      go_simp
      exact hK _ _ (keeps_refl _) hI rfl
    · intro _ a w1 vs hI ho hn hu K hK
      obtain ⟨e45, g45⟩ : a.tmps[45]? = some (vs 19) ∧ vs 19 = .bool true := hn 19 (by decide)
      rw [g45] at e45
      clear g45
      clear hn ho hu
      go_simp
      exact hK _ _ (keeps_refl _) hI rfl
    · intro _ a w1 vs hI ho hn hu K hK
      have e4 : a.tmps[4]? = some (.int .i64 1) := ho 4 rfl
      clear hn ho hu
      go_simp
      exact hK _ _ (keeps_refl _) hI rfl
    · intro _ a w1 vs hI ho hn hu K hK
      obtain ⟨e47, g47⟩ : a.tmps[47]? = some (vs 21) ∧ vs 21 = .int .i64 1 := hn 21 (by decide)
      rw [g47] at e47
      clear g47
      clear hn ho hu
      go_simp
      exact hK _ _ (keeps_refl _) hI rfl
    · intro _ a w1 vs hI ho hn hu K hK
      obtain ⟨e46, g46⟩ : a.tmps[46]? = some (vs 20) ∧ vs 20 = .bool true := hn 20 (by decide)
      rw [g46] at e46
      clear g46
      obtain ⟨e48, g48⟩ : a.tmps[48]? = some (vs 22) ∧ vs 22 = .bool true := hn 22 (by decide)
      rw [g48] at e48
      clear g48
      clear hn ho hu
      go_simp
      exact hK _ _ (keeps_refl _) hI rfl
    · intro _ a w1 vs hI ho hn hu K hK
      obtain ⟨e49, g49⟩ : a.tmps[49]? = some (vs 23) ∧ vs 23 = .bool true := hn 23 (by decide)
      rw [g49] at e49
      clear g49
      clear hn ho hu
      go_simp
      exact hK _ _ (keeps_refl _) hI rfl
    · intro _ a w1 vs hI ho hn hu K hK
      have e6 : a.tmps[6]? = some (.int .i64 4) := ho 6 rfl
      clear hn ho hu
      go_simp
      exact hK _ _ (keeps_refl _) hI rfl
    · intro _ a w1 vs hI ho hn hu K hK
      obtain ⟨e51, g51⟩ : a.tmps[51]? = some (vs 25) ∧ vs 25 = .int .i64 4 := hn 25 (by decide)
      rw [g51] at e51
      clear g51
      clear hn ho hu
      go_simp
      exact hK _ _ (keeps_refl _) hI rfl
    · intro _ a w1 vs hI ho hn hu K hK
      obtain ⟨e50, g50⟩ : a.tmps[50]? = some (vs 24) ∧ vs 24 = .bool true := hn 24 (by decide)
      rw [g50] at e50
      clear g50
      obtain ⟨e52, g52⟩ : a.tmps[52]? = some (vs 26) ∧ vs 26 = .bool true := hn 26 (by decide)
      rw [g52] at e52
      clear g52
      clear hn ho hu
      go_simp
      exact hK _ _ (keeps_refl _) hI rfl
    · intro _ a w1 vs hI ho hn hu K hK
      obtain ⟨e53, g53⟩ : a.tmps[53]? = some (vs 27) ∧ vs 27 = .bool true := hn 27 (by decide)
      rw [g53] at e53
      clear g53
      clear hn ho hu
      go_simp
      exact hK _ _ (keeps_refl _) hI rfl
    · intro _ a w1 vs hI ho hn hu K hK
      clear hn ho hu
      go_simp
      exact hK _ _ (keeps_refl _) hI rfl
    · intro _ a w1 vs hI ho hn hu K hK
      clear hn ho hu
      go_simp
      exact hK _ _ (keeps_refl _) hI rfl
    · intro _ a w1 vs hI ho hn hu K hK
      obtain ⟨e55, g55⟩ : a.tmps[55]? = some (vs 29) ∧ vs 29 = .agg #[.int .i64 1, .int .i64 9] := hn 29 (by decide)
      rw [g55] at e55
      clear g55
      obtain ⟨e56, g56⟩ : a.tmps[56]? = some (vs 30) ∧ vs 30 = .agg #[.int .i64 2, .int .i64 0] := hn 30 (by decide)
      rw [g56] at e56
      clear g56
      clear hn ho hu
      go_simp
      refine Calls.mono (HLS.out _) ?_
      rintro e w' ⟨rfl, hk2⟩
      go_simp
      exact hK _ _ hk2 (Keeps.trans hI hk2) rfl
    · intro _ a w1 vs hI ho hn hu K hK
      obtain ⟨e54, g54⟩ : a.tmps[54]? = some (vs 28) ∧ vs 28 = .bool true := hn 28 (by decide)
      rw [g54] at e54
      clear g54
      obtain ⟨e57, g57⟩ : a.tmps[57]? = some (vs 31) ∧ vs 31 = .bool true := hn 31 (by decide)
      rw [g57] at e57
      clear g57
      clear hn ho hu
      go_simp
      exact hK _ _ (keeps_refl _) hI rfl
    · intro _ a w1 vs hI ho hn hu K hK
      obtain ⟨e58, g58⟩ : a.tmps[58]? = some (vs 32) ∧ vs 32 = .bool true := hn 32 (by decide)
      rw [g58] at e58
      clear g58
      clear hn ho hu
      go_simp
      exact hK _ _ (keeps_refl _) hI rfl
  · intro vs wE hI hG
    have eL33 : vs 33 = .bool true := hG 33 (by decide)
    have HKE := Lib.hid hI
    clear hG hI
    simp only [setAll, Nat.zero_add, Nat.reduceAdd, List.setIfInBounds_toArray, List.set_cons_zero, List.set_cons_succ, eL33]
    clear eL33
    generalize vs 0 = y0 at *
    generalize vs 1 = y1 at *
    generalize vs 2 = y2 at *
    generalize vs 3 = y3 at *
    generalize vs 4 = y4 at *
    generalize vs 5 = y5 at *
    generalize vs 6 = y6 at *
    generalize vs 7 = y7 at *
    generalize vs 8 = y8 at *
    generalize vs 9 = y9 at *
    generalize vs 10 = y10 at *
    generalize vs 11 = y11 at *
    generalize vs 12 = y12 at *
    generalize vs 13 = y13 at *
    generalize vs 14 = y14 at *
    generalize vs 15 = y15 at *
    generalize vs 16 = y16 at *
    generalize vs 17 = y17 at *
    generalize vs 18 = y18 at *
    generalize vs 19 = y19 at *
    generalize vs 20 = y20 at *
    generalize vs 21 = y21 at *
    generalize vs 22 = y22 at *
    generalize vs 23 = y23 at *
    generalize vs 24 = y24 at *
    generalize vs 25 = y25 at *
    generalize vs 26 = y26 at *
    generalize vs 27 = y27 at *
    generalize vs 28 = y28 at *
    generalize vs 29 = y29 at *
    generalize vs 30 = y30 at *
    generalize vs 31 = y31 at *
    generalize vs 32 = y32 at *
    go_wp2_with fail
    go_ret
    exact ⟨rfl, HK6.out.trans HKE.out⟩
end Go.Proofs.Ytcapalofocmmoaa
