/- The walk of the reference's Make of a frame. -/
import Derived.Test.YtcapalofocmmoaaRfFr
namespace Go.Proofs.Ytcapalofocmmoaa
open Go.RowKit
theorem two_row (k n : Nat) (hk : k < 256) (hn : n < 256) : ∀ i (hi : i < [UInt8.ofNat k, UInt8.ofNat n].length), ∃ u, (#[.int .u8 (k : Int), .int .u8 (n : Int)] : Array Value)[i]? = some u ∧ IsByte u [UInt8.ofNat k, UInt8.ofNat n][i] := by
  intro i hi
  have e0 : ((UInt8.ofNat k).toNat : Int) = (k : Int) := by rw [UInt8.toNat_ofNat']; omega
  have e1 : ((UInt8.ofNat n).toNat : Int) = (n : Int) := by rw [UInt8.toNat_ofNat']; omega
  match i, hi with
  | 0, _ => exact ⟨_, rfl, by show _ = Value.int .u8 _; rw [← e0]; rfl⟩
  | 1, _ => exact ⟨_, rfl, by show _ = Value.int .u8 _; rw [← e1]; rfl⟩
  | n + 2, h => simp at h; omega
def rmake5 (ep gen k n : Nat) (b m1 m2 m3 m4 : ByteArray) (T : List UInt8) (N : Nat) : Nat → Value → World → Prop
  | 18, v, w => ∃ q, v = .slice (some ⟨q, 0, none⟩) 2 2 ∧ RowAt w.heap (.slice (some ⟨q, 0, none⟩) 2 2) [UInt8.ofNat k, UInt8.ofNat n]
  | i, v, _ => v = ([.pointer (some ⟨N, 0, none⟩), .pointer (some ⟨N, 0, none⟩), .int .i64 (ep : Int), .string (strB (SH.four ep)), .string m1, .pointer (some ⟨N, 0, none⟩), .pointer (some ⟨N, 1, none⟩), .int .i64 (gen : Int), .string (strB (SH.four gen)), .string m2, .pointer (some ⟨N, 2, none⟩), .pointer (some ⟨N, 2, none⟩), .int .i64 (k : Int), .int .u8 (k : Int), .pointer (some ⟨N, 2, none⟩), .pointer (some ⟨N, 3, none⟩), .int .i64 (n : Int), .int .u8 (n : Int), undef, .string (strB [UInt8.ofNat k, UInt8.ofNat n]), .string m3, .pointer (some ⟨N, 4, none⟩), .string b, .int .i64 (b.size : Int), .string (strB (SH.four b.size)), .string m4, .pointer (some ⟨N, 4, none⟩), .string b, .string (strB T), .string (strB T)] : List Value).getD i undef
theorem rmake5_keeps {ep gen k n : Nat} {b m1 m2 m3 m4 : ByteArray} {T : List UInt8} {N : Nat} (i : Nat) (v : Value) (w w' : World) (c : Keeps w w') (h : rmake5 ep gen k n b m1 m2 m3 m4 T N i v w) : rmake5 ep gen k n b m1 m2 m3 m4 T N i v w' := by
  match i, h with
  | 0, h => exact h
  | 1, h => exact h
  | 2, h => exact h
  | 3, h => exact h
  | 4, h => exact h
  | 5, h => exact h
  | 6, h => exact h
  | 7, h => exact h
  | 8, h => exact h
  | 9, h => exact h
  | 10, h => exact h
  | 11, h => exact h
  | 12, h => exact h
  | 13, h => exact h
  | 14, h => exact h
  | 15, h => exact h
  | 16, h => exact h
  | 17, h => exact h
  | 18, h => exact h.imp fun q h => ⟨h.1, SeqAt.keeps h.2 c⟩
  | 19, h => exact h
  | 20, h => exact h
  | 21, h => exact h
  | 22, h => exact h
  | 23, h => exact h
  | 24, h => exact h
  | 25, h => exact h
  | 26, h => exact h
  | 27, h => exact h
  | 28, h => exact h
  | 29, h => exact h
  | _ + 30, h => exact h
set_option maxRecDepth 100000 in
set_option maxHeartbeats 4000000 in
theorem rfmake_any (ep gen k n : Int) (b : ByteArray) (w : World) (hb : b.size ≤ 140737488351232) : Calls Try.prog 32 #[frV ep gen k n b] w fun e w' => e = .returned (.tuple #[.string (makeF ep gen k n b).1, .int .i64 (makeF ep gen k n b).2]) ∧ Keeps w w' := by
  have HMK : Hid (makeF ep gen k n b = if mayF ep gen k n then (if b.size + 50 ≤ 65536 then (strB (sealF (textF ep.toNat gen.toNat k.toNat n.toNat b.data.toList)), 0) else (⟨#[]⟩, 40)) else (⟨#[]⟩, 1)) := rfl
  have HFM := Lib.hid (rfmay_any ep gen k n b)
  unfold frV at HFM ⊢
  go_enter Try.func32, Try.ntmps32
  go_wp2_with fail
  refine Calls.mono (HFM.out _) ?_
  rintro e w2 ⟨rfl, hk⟩
  have HK : Hid (Keeps w w2) := Keeps.trans (kal w _) hk
  have E0 : Hid (w2.cell? ⟨w.heap.size, 0, none⟩ = some (.int .i64 ep)) := keeps_cell hk (World.cell?_alloc_new _ _ _ _)
  have E1 : Hid (w2.cell? ⟨w.heap.size, 1, none⟩ = some (.int .i64 gen)) := keeps_cell hk (World.cell?_alloc_new _ _ _ _)
  have E2 : Hid (w2.cell? ⟨w.heap.size, 2, none⟩ = some (.int .i64 k)) := keeps_cell hk (World.cell?_alloc_new _ _ _ _)
  have E3 : Hid (w2.cell? ⟨w.heap.size, 3, none⟩ = some (.int .i64 n)) := keeps_cell hk (World.cell?_alloc_new _ _ _ _)
  have E4 : Hid (w2.cell? ⟨w.heap.size, 4, none⟩ = some (.string b)) := keeps_cell hk (World.cell?_alloc_new _ _ _ _)
  clear hk HFM
  generalize w.heap.size = N at *
  cases hm : mayF ep gen k n with
  | false =>
    have HF : Hid (makeF ep gen k n b = (⟨#[]⟩, 1)) := by show _ = _; rw [HMK.out, hm]; rfl
    clear hm
    go_wp2_with fail
    go_ret2
    rw [HF.out]
    exact ⟨rfl, HK.out⟩
  | true =>
  obtain ⟨⟨p1, p2⟩, ⟨p3, p4⟩, p5, p6, p7⟩ := mayF_true.1 hm
  have HF0 : Hid (makeF ep gen k n b = (if b.size + 50 ≤ 65536 then (strB (sealF (textF ep.toNat gen.toNat k.toNat n.toNat b.data.toList)), 0) else (⟨#[]⟩, 40))) := by show _ = _; rw [HMK.out, hm]; rfl
  clear hm HMK
  obtain ⟨ep, rfl⟩ := Int.eq_ofNat_of_zero_le p1
  obtain ⟨gen, rfl⟩ := Int.eq_ofNat_of_zero_le p3
  obtain ⟨k, rfl⟩ := Int.eq_ofNat_of_zero_le (show 0 ≤ k by omega)
  obtain ⟨n, rfl⟩ := Int.eq_ofNat_of_zero_le (show 0 ≤ n by omega)
  have c4 := E4.out
  by_cases hbig : b.size + 50 ≤ 65536
  case neg =>
    have HG : Hid (makeF ep gen k n b = (⟨#[]⟩, 40)) := by show _ = _; rw [HF0.out, if_neg hbig]
    have g1 : 65486 < (b.size : Int) := by omega
    have g2 : decide (65486 < (b.size : Int)) = true := decide_eq_true g1
    clear HF0 hbig
    go_wp2_with fail
    go_ret2
    rw [HG.out]
    exact ⟨rfl, HK.out⟩
  have HG : Hid (makeF ep gen k n b = (strB (sealF (textF ep gen k n b.data.toList)), 0)) := by show _ = _; rw [HF0.out, if_pos hbig]; rfl
  have g1 : (b.size : Int) ≤ 65486 := by omega
  have g2 : decide (65486 < (b.size : Int)) = false := decide_eq_false (by omega)
  have hbs : b.size ≤ 65486 := by omega
  clear HF0 hbig
  have A1 : Hid (strB [109, 97, 110, 49] ++ strB (SH.four ep) = strB ([109, 97, 110, 49] ++ SH.four ep)) := strB_append _ _
  have A2 : Hid (strB ([109, 97, 110, 49] ++ SH.four ep) ++ strB (SH.four gen) = strB ([109, 97, 110, 49] ++ SH.four ep ++ SH.four gen)) := strB_append _ _
  have A3 : Hid (strB ([109, 97, 110, 49] ++ SH.four ep ++ SH.four gen) ++ strB [UInt8.ofNat k, UInt8.ofNat n] = strB ([109, 97, 110, 49] ++ SH.four ep ++ SH.four gen ++ [UInt8.ofNat k, UInt8.ofNat n])) := strB_append _ _
  have A4 : Hid (strB ([109, 97, 110, 49] ++ SH.four ep ++ SH.four gen ++ [UInt8.ofNat k, UInt8.ofNat n]) ++ strB (SH.four b.size) = strB ([109, 97, 110, 49] ++ SH.four ep ++ SH.four gen ++ [UInt8.ofNat k, UInt8.ofNat n] ++ SH.four b.size)) := strB_append _ _
  have A5 : Hid (strB ([109, 97, 110, 49] ++ SH.four ep ++ SH.four gen ++ [UInt8.ofNat k, UInt8.ofNat n] ++ SH.four b.size) ++ b = strB (textF ep gen k n b.data.toList)) := by
    show _ = _
    conv => lhs; rw [← strB_data b]
    rw [strB_append]
    unfold textF headF
    rw [data_size]
    simp only [List.append_assoc, List.cons_append, List.nil_append]
    rw [strB_data]
  have s1 : (strB (SH.four ep)).size ≤ 4 := Nat.le_refl _
  have s2 : (strB (SH.four gen)).size ≤ 4 := Nat.le_refl _
  have s3 : (strB [UInt8.ofNat k, UInt8.ofNat n]).size ≤ 4 := by show 2 ≤ 4; omega
  have s4 : (strB (SH.four b.size)).size ≤ 4 := Nat.le_refl _
  have s0 : (strB [109, 97, 110, 49]).size ≤ 4 := Nat.le_refl _
  generalize hm0 : strB [109, 97, 110, 49] = m0 at *
  generalize hm1 : strB ([109, 97, 110, 49] ++ SH.four ep) = m1 at *
  generalize hm2 : strB ([109, 97, 110, 49] ++ SH.four ep ++ SH.four gen) = m2 at *
  generalize hm3 : strB ([109, 97, 110, 49] ++ SH.four ep ++ SH.four gen ++ [UInt8.ofNat k, UInt8.ofNat n]) = m3 at *
  generalize hm4 : strB ([109, 97, 110, 49] ++ SH.four ep ++ SH.four gen ++ [UInt8.ofNat k, UInt8.ofNat n] ++ SH.four b.size) = m4 at *
  have t1 : m1.size ≤ 8 := by rw [← hm1]; exact Nat.le_refl _
  have t2 : m2.size ≤ 12 := by rw [← hm2]; exact Nat.le_refl _
  have t3 : m3.size ≤ 14 := by rw [← hm3]; exact Nat.le_refl _
  have t4 : m4.size ≤ 18 := by rw [← hm4]; exact Nat.le_refl _
  have HM0 : Hid ((⟨#[109, 97, 110, 49]⟩ : ByteArray) = m0) := hm0
  have HTL : Hid ((strB (textF ep gen k n b.data.toList)).size = 18 + b.size) := by show _ = _; rw [strB_size, textF_length, data_size]
  clear hm0 hm1 hm2 hm3 hm4 c4
  generalize textF ep gen k n b.data.toList = T at *
  have c4 := E4.out
  go_wp2_with fail
  clear c4
  refine wp_region_stage [12, 13, 14, 15, 16, 17, 18, 19, 20, 21, 22, 23, 24, 25, 26, 27, 28, 29, 30, 31, 32, 33, 34, 35, 36, 37, 38, 39, 40, 4] [[], [0], [1], [2], [3], [], [5], [6], [7], [4, 8], [], [10], [11], [12], [], [14], [15], [16], [13, 17], [18], [9, 19], [], [21], [22], [23], [20, 24], [], [26], [25, 27], [28]] [] [0, 0, 0, 0, 0, 0, 0, 0, 0, 0, 0, 0, 0, 0, 0, 0, 0, 0, 0, 0, 0, 0, 0, 0, 0, 0, 0, 0, 0, 0] [] (rmake5 ep gen k n b m1 m2 m3 m4 T N) (fun w w' => Keeps w w') (fun _ _ w' => Keeps w2 w') (by kernel_rfl) (by kernel_rfl) (by kernel_rfl) (by kernel_rfl) (by kernel_rfl) (by kernel_rfl) (by kernel_rfl) ?_ ?_ ?_ ?_ ?_ ?_ ?_
  · exact fun i v w w' c h => rmake5_keeps i v w w' c h
  · exact fun w => keeps_refl w
  · exact fun i s vs w h => by cases h
  · refine ⟨?_, ?_, ?_, ?_, ?_, ?_, ?_, ?_, ?_, ?_, ?_, ?_, ?_, ?_, ?_, ?_, ?_, ?_, ?_, ?_, ?_, ?_, ?_, ?_, ?_, ?_, ?_, ?_, ?_, ?_, trivial⟩
    · exact fun g b h => by (cases h)
    · exact fun g b h => by (cases h)
    · exact fun g b h => by (cases h)
    · exact fun g b h => by (cases h)
    · exact fun g b h => by (cases h)
    · exact fun g b h => by (cases h)
    · exact fun g b h => by (cases h)
    · exact fun g b h => by (cases h)
    · exact fun g b h => by (cases h)
    · exact fun g b h => by (cases h)
    · exact fun g b h => by (cases h)
    · exact fun g b h => by (cases h)
    · exact fun g b h => by (cases h)
    · exact fun g b h => by (cases h)
    · exact fun g b h => by (cases h)
    · exact fun g b h => by (cases h)
    · exact fun g b h => by (cases h)
    · exact fun g b h => by (cases h)
    · exact fun g b h => by (cases h)
    · exact fun g b h => by (cases h)
    · exact fun g b h => by (cases h)
    · exact fun g b h => by (cases h)
    · exact fun g b h => by (cases h)
    · exact fun g b h => by (cases h)
    · exact fun g b h => by (cases h)
    · exact fun g b h => by (cases h)
    · exact fun g b h => by (cases h)
    · exact fun g b h => by (cases h)
    · exact fun g b h => by (cases h)
    · exact fun g b h => by (cases h)
  · exact fun _ _ => keeps_refl w2
  · refine ⟨?_, ?_, ?_, ?_, ?_, ?_, ?_, ?_, ?_, ?_, ?_, ?_, ?_, ?_, ?_, ?_, ?_, ?_, ?_, ?_, ?_, ?_, ?_, ?_, ?_, ?_, ?_, ?_, ?_, ?_, trivial⟩
    · intro _ a w1 vs hI ho hn hu K hK
      have e1 : a.tmps[1]? = some (.pointer (some ⟨N, 0, none⟩)) := ho 1 rfl
      clear hn ho hu
      go_simp
      exact hK _ _ (keeps_refl _) hI rfl
    · intro _ a w1 vs hI ho hn hu K hK
      obtain ⟨e12, g12⟩ : a.tmps[12]? = some (vs 0) ∧ vs 0 = .pointer (some ⟨N, 0, none⟩) := hn 0 (by decide)
      rw [g12] at e12
      clear g12
      clear hn ho hu
      go_simp
      exact hK _ _ (keeps_refl _) hI rfl
    · intro _ a w1 vs hI ho hn hu K hK
      obtain ⟨e13, g13⟩ : a.tmps[13]? = some (vs 1) ∧ vs 1 = .pointer (some ⟨N, 0, none⟩) := hn 1 (by decide)
      rw [g13] at e13
      clear g13
      clear hn ho hu
      have c := keeps_cell hI E0.out
      go_simp
      exact hK _ _ (keeps_refl _) hI rfl
    · intro _ a w1 vs hI ho hn hu K hK
      obtain ⟨e14, g14⟩ : a.tmps[14]? = some (vs 2) ∧ vs 2 = .int .i64 (ep : Int) := hn 2 (by decide)
      rw [g14] at e14
      clear g14
      clear hn ho hu
      go_simp
      refine Calls.mono (rffour_any ep _ (by omega)) ?_
      rintro e w' ⟨rfl, hk2⟩
      go_simp
      exact hK _ _ hk2 (Keeps.trans hI hk2) rfl
    · intro _ a w1 vs hI ho hn hu K hK
      obtain ⟨e15, g15⟩ : a.tmps[15]? = some (vs 3) ∧ vs 3 = .string (strB (SH.four ep)) := hn 3 (by decide)
      rw [g15] at e15
      clear g15
      clear hn ho hu
      have qs : (9223372036854775807 < m0.size + (strB (SH.four ep)).size) = False := eq_false (by omega)
      go_simp
      rw [HM0.out]
      rw [A1.out]
      exact hK _ _ (keeps_refl _) hI rfl
    · intro _ a w1 vs hI ho hn hu K hK
      have e1 : a.tmps[1]? = some (.pointer (some ⟨N, 0, none⟩)) := ho 1 rfl
      clear hn ho hu
      go_simp
      exact hK _ _ (keeps_refl _) hI rfl
    · intro _ a w1 vs hI ho hn hu K hK
      obtain ⟨e17, g17⟩ : a.tmps[17]? = some (vs 5) ∧ vs 5 = .pointer (some ⟨N, 0, none⟩) := hn 5 (by decide)
      rw [g17] at e17
      clear g17
      clear hn ho hu
      go_simp
      exact hK _ _ (keeps_refl _) hI rfl
    · intro _ a w1 vs hI ho hn hu K hK
      obtain ⟨e18, g18⟩ : a.tmps[18]? = some (vs 6) ∧ vs 6 = .pointer (some ⟨N, 1, none⟩) := hn 6 (by decide)
      rw [g18] at e18
      clear g18
      clear hn ho hu
      have c := keeps_cell hI E1.out
      go_simp
      exact hK _ _ (keeps_refl _) hI rfl
    · intro _ a w1 vs hI ho hn hu K hK
      obtain ⟨e19, g19⟩ : a.tmps[19]? = some (vs 7) ∧ vs 7 = .int .i64 (gen : Int) := hn 7 (by decide)
      rw [g19] at e19
      clear g19
      clear hn ho hu
      go_simp
      refine Calls.mono (rffour_any gen _ (by omega)) ?_
      rintro e w' ⟨rfl, hk2⟩
      go_simp
      exact hK _ _ hk2 (Keeps.trans hI hk2) rfl
    · intro _ a w1 vs hI ho hn hu K hK
      obtain ⟨e16, g16⟩ : a.tmps[16]? = some (vs 4) ∧ vs 4 = .string m1 := hn 4 (by decide)
      rw [g16] at e16
      clear g16
      obtain ⟨e20, g20⟩ : a.tmps[20]? = some (vs 8) ∧ vs 8 = .string (strB (SH.four gen)) := hn 8 (by decide)
      rw [g20] at e20
      clear g20
      clear hn ho hu
      have qs : (9223372036854775807 < m1.size + (strB (SH.four gen)).size) = False := eq_false (by omega)
      go_simp
      rw [A2.out]
      exact hK _ _ (keeps_refl _) hI rfl
    · intro _ a w1 vs hI ho hn hu K hK
      have e1 : a.tmps[1]? = some (.pointer (some ⟨N, 0, none⟩)) := ho 1 rfl
      clear hn ho hu
      go_simp
      exact hK _ _ (keeps_refl _) hI rfl
    · intro _ a w1 vs hI ho hn hu K hK
      obtain ⟨e22, g22⟩ : a.tmps[22]? = some (vs 10) ∧ vs 10 = .pointer (some ⟨N, 2, none⟩) := hn 10 (by decide)
      rw [g22] at e22
      clear g22
      clear hn ho hu
      go_simp
      exact hK _ _ (keeps_refl _) hI rfl
    · intro _ a w1 vs hI ho hn hu K hK
      obtain ⟨e23, g23⟩ : a.tmps[23]? = some (vs 11) ∧ vs 11 = .pointer (some ⟨N, 2, none⟩) := hn 11 (by decide)
      rw [g23] at e23
      clear g23
      clear hn ho hu
      have c := keeps_cell hI E2.out
      go_simp
      exact hK _ _ (keeps_refl _) hI rfl
    · intro _ a w1 vs hI ho hn hu K hK
      obtain ⟨e24, g24⟩ : a.tmps[24]? = some (vs 12) ∧ vs 12 = .int .i64 (k : Int) := hn 12 (by decide)
      rw [g24] at e24
      clear g24
      clear hn ho hu
      have wk : IntKind.u8.wrap (k : Int) = (k : Int) := IntWalk.u8_in _ (by omega)
      go_simp
      first | exact hK _ _ (keeps_refl _) hI rfl | (rw [wk]; exact hK _ _ (keeps_refl _) hI rfl)
    · intro _ a w1 vs hI ho hn hu K hK
      have e1 : a.tmps[1]? = some (.pointer (some ⟨N, 0, none⟩)) := ho 1 rfl
      clear hn ho hu
      go_simp
      exact hK _ _ (keeps_refl _) hI rfl
    · intro _ a w1 vs hI ho hn hu K hK
      obtain ⟨e26, g26⟩ : a.tmps[26]? = some (vs 14) ∧ vs 14 = .pointer (some ⟨N, 2, none⟩) := hn 14 (by decide)
      rw [g26] at e26
      clear g26
      clear hn ho hu
      go_simp
      exact hK _ _ (keeps_refl _) hI rfl
    · intro _ a w1 vs hI ho hn hu K hK
      obtain ⟨e27, g27⟩ : a.tmps[27]? = some (vs 15) ∧ vs 15 = .pointer (some ⟨N, 3, none⟩) := hn 15 (by decide)
      rw [g27] at e27
      clear g27
      clear hn ho hu
      have c := keeps_cell hI E3.out
      go_simp
      exact hK _ _ (keeps_refl _) hI rfl
    · intro _ a w1 vs hI ho hn hu K hK
      obtain ⟨e28, g28⟩ : a.tmps[28]? = some (vs 16) ∧ vs 16 = .int .i64 (n : Int) := hn 16 (by decide)
      rw [g28] at e28
      clear g28
      clear hn ho hu
      have wk : IntKind.u8.wrap (n : Int) = (n : Int) := IntWalk.u8_in _ (by omega)
      go_simp
      first | exact hK _ _ (keeps_refl _) hI rfl | (rw [wk]; exact hK _ _ (keeps_refl _) hI rfl)
    · intro _ a w1 vs hI ho hn hu K hK
      obtain ⟨e25, g25⟩ : a.tmps[25]? = some (vs 13) ∧ vs 13 = .int .u8 (k : Int) := hn 13 (by decide)
      rw [g25] at e25
      clear g25
      obtain ⟨e29, g29⟩ : a.tmps[29]? = some (vs 17) ∧ vs 17 = .int .u8 (n : Int) := hn 17 (by decide)
      rw [g29] at e29
      clear g29
      clear hn ho hu
      go_simp
      exact hK _ _ (kal _ _) (Keeps.trans hI (kal _ _)) ⟨_, rfl, seqAt_lit w1 (#[.int .u8 (k : Int), .int .u8 (n : Int)] : Array Value) 5 [UInt8.ofNat k, UInt8.ofNat n] 2 2 rfl (by omega) (two_row k n (by omega) (by omega))⟩
    · intro _ a w1 vs hI ho hn hu K hK
      obtain ⟨e30, g30⟩ : a.tmps[30]? = some (vs 18) ∧ ∃ q, (vs 18) = .slice (some ⟨q, 0, none⟩) 2 2 ∧ RowAt w1.heap (.slice (some ⟨q, 0, none⟩) 2 2) [UInt8.ofNat k, UInt8.ofNat n] := hn 18 (by decide)
      clear hn ho hu
      obtain ⟨q, e9, g9⟩ := g30
      rw [e9] at e30
      have hcv := conv_row (P := Try.prog) (src := 59) (dst := 9) (e := 5) Try.underlying59 (by kernel_rfl) Try.underlying9 g9
      go_simp
      exact hK _ _ (keeps_refl _) hI rfl
    · intro _ a w1 vs hI ho hn hu K hK
      obtain ⟨e21, g21⟩ : a.tmps[21]? = some (vs 9) ∧ vs 9 = .string m2 := hn 9 (by decide)
      rw [g21] at e21
      clear g21
      obtain ⟨e31, g31⟩ : a.tmps[31]? = some (vs 19) ∧ vs 19 = .string (strB [UInt8.ofNat k, UInt8.ofNat n]) := hn 19 (by decide)
      rw [g31] at e31
      clear g31
      clear hn ho hu
      have qs : (9223372036854775807 < m2.size + (strB [UInt8.ofNat k, UInt8.ofNat n]).size) = False := eq_false (by omega)
      go_simp
      rw [A3.out]
      exact hK _ _ (keeps_refl _) hI rfl
    · intro _ a w1 vs hI ho hn hu K hK
      have e1 : a.tmps[1]? = some (.pointer (some ⟨N, 0, none⟩)) := ho 1 rfl
      clear hn ho hu
      go_simp
      exact hK _ _ (keeps_refl _) hI rfl
    · intro _ a w1 vs hI ho hn hu K hK
      obtain ⟨e33, g33⟩ : a.tmps[33]? = some (vs 21) ∧ vs 21 = .pointer (some ⟨N, 4, none⟩) := hn 21 (by decide)
      rw [g33] at e33
      clear g33
      clear hn ho hu
      have c := keeps_cell hI E4.out
      go_simp
      exact hK _ _ (keeps_refl _) hI rfl
    · intro _ a w1 vs hI ho hn hu K hK
      obtain ⟨e34, g34⟩ : a.tmps[34]? = some (vs 22) ∧ vs 22 = .string b := hn 22 (by decide)
      rw [g34] at e34
      clear g34
      clear hn ho hu
      go_simp
      exact hK _ _ (keeps_refl _) hI rfl
    · intro _ a w1 vs hI ho hn hu K hK
      obtain ⟨e35, g35⟩ : a.tmps[35]? = some (vs 23) ∧ vs 23 = .int .i64 (b.size : Int) := hn 23 (by decide)
      rw [g35] at e35
      clear g35
      clear hn ho hu
      go_simp
      refine Calls.mono (rffour_any b.size _ (by omega)) ?_
      rintro e w' ⟨rfl, hk2⟩
      go_simp
      exact hK _ _ hk2 (Keeps.trans hI hk2) rfl
    · intro _ a w1 vs hI ho hn hu K hK
      obtain ⟨e32, g32⟩ : a.tmps[32]? = some (vs 20) ∧ vs 20 = .string m3 := hn 20 (by decide)
      rw [g32] at e32
      clear g32
      obtain ⟨e36, g36⟩ : a.tmps[36]? = some (vs 24) ∧ vs 24 = .string (strB (SH.four b.size)) := hn 24 (by decide)
      rw [g36] at e36
      clear g36
      clear hn ho hu
      have qs : (9223372036854775807 < m3.size + (strB (SH.four b.size)).size) = False := eq_false (by omega)
      go_simp
      rw [A4.out]
      exact hK _ _ (keeps_refl _) hI rfl
    · intro _ a w1 vs hI ho hn hu K hK
      have e1 : a.tmps[1]? = some (.pointer (some ⟨N, 0, none⟩)) := ho 1 rfl
      clear hn ho hu
      go_simp
      exact hK _ _ (keeps_refl _) hI rfl
    · intro _ a w1 vs hI ho hn hu K hK
      obtain ⟨e38, g38⟩ : a.tmps[38]? = some (vs 26) ∧ vs 26 = .pointer (some ⟨N, 4, none⟩) := hn 26 (by decide)
      rw [g38] at e38
      clear g38
      clear hn ho hu
      have c := keeps_cell hI E4.out
      go_simp
      exact hK _ _ (keeps_refl _) hI rfl
    · intro _ a w1 vs hI ho hn hu K hK
      obtain ⟨e37, g37⟩ : a.tmps[37]? = some (vs 25) ∧ vs 25 = .string m4 := hn 25 (by decide)
      rw [g37] at e37
      clear g37
      obtain ⟨e39, g39⟩ : a.tmps[39]? = some (vs 27) ∧ vs 27 = .string b := hn 27 (by decide)
      rw [g39] at e39
      clear g39
      clear hn ho hu
      have qs : (9223372036854775807 < m4.size + b.size) = False := eq_false (by omega)
      go_simp
      rw [A5.out]
      exact hK _ _ (keeps_refl _) hI rfl
    · intro _ a w1 vs hI ho hn hu K hK
      obtain ⟨e40, g40⟩ : a.tmps[40]? = some (vs 28) ∧ vs 28 = .string (strB T) := hn 28 (by decide)
      rw [g40] at e40
      clear g40
      clear hn ho hu
      go_simp
      exact hK _ _ (keeps_refl _) hI rfl
  · intro vs w4 hI hG
    have eL : vs 29 = .string (strB T) := hG 29 (by decide)
    have HK4 := Lib.hid (HK.out.trans hI)
    clear hG hI
    simp only [setAll, Nat.zero_add, Nat.reduceAdd, List.setIfInBounds_toArray, List.set_cons_zero, List.set_cons_succ, eL]
    clear eL A1 A2 A3 A4 A5 HM0 s0 s1 s2 s3 s4 t1 t2 t3 t4
    generalize vs 0 = y0 at *
    generalize vs 1 = y1 at *
    generalize vs 2 = y2 at *
    generalize vs 3 = y3 at *
    generalize vs 4 = y4 at *
    generalize vs 5 = y5 at *
    generalize vs 6 = y6 at *
    generalize vs 7 = y7 at *
    generalize vs 8 = y8 at *
    generalize vs 9 = y9 at *
    generalize vs 10 = y10 at *
    generalize vs 11 = y11 at *
    generalize vs 12 = y12 at *
    generalize vs 13 = y13 at *
    generalize vs 14 = y14 at *
    generalize vs 15 = y15 at *
    generalize vs 16 = y16 at *
    generalize vs 17 = y17 at *
    generalize vs 18 = y18 at *
    generalize vs 19 = y19 at *
    generalize vs 20 = y20 at *
    generalize vs 21 = y21 at *
    generalize vs 22 = y22 at *
    generalize vs 23 = y23 at *
    generalize vs 24 = y24 at *
    generalize vs 25 = y25 at *
    generalize vs 26 = y26 at *
    generalize vs 27 = y27 at *
    generalize vs 28 = y28 at *
    have HSM := Lib.hid (fun wx h => refsum_any (strB T) wx h)
    have HAP : Hid (strB T ++ strB (SH.sumB T) = strB (sealF T)) := by show _ = _; rw [strB_append]; rfl
    have sz2 : (strB (SH.sumB T)).size ≤ 32 := by rw [strB_size, SH.sumB_length]; omega
    have sz1 : (strB T).size ≤ 65504 := by rw [HTL.out]; omega
    have eT : (strB T).data.toList = T := rfl
    rw [eT] at HSM
    clear eT HTL
    generalize strB T = s at *
    generalize strB (SH.sumB T) = d at *
    clear p1 p2 p3 p4 p5 p6 p7 E0 E1 E2 E3 E4 hb g1 g2
    go_wp2_with fail
    refine Calls.mono (HSM.out _ (by omega)) ?_
    rintro e w5 ⟨rfl, hk⟩
    have HK5 := Lib.hid (HK4.out.trans hk)
    clear hk
    go_wp2_with fail
    go_ret2
    rw [HG.out]
    exact ⟨by rw [← HAP.out]; rfl, HK5.out⟩
end Go.Proofs.Ytcapalofocmmoaa
