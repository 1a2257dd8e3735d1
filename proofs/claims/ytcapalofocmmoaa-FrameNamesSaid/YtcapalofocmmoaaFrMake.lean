/- The walk of frame.Make. -/
import Derived.Test.YtcapalofocmmoaaFrLess
namespace Go.Proofs.Ytcapalofocmmoaa
open Go.RowKit
def headF (ep gen k n len : Nat) : List UInt8 := [109, 97, 110, 49] ++ SH.four ep ++ SH.four gen ++ [UInt8.ofNat k] ++ [UInt8.ofNat n] ++ SH.four len
def textF (ep gen k n : Nat) (b : List UInt8) : List UInt8 := headF ep gen k n b.length ++ b
theorem headF_length (ep gen k n len : Nat) : (headF ep gen k n len).length = 18 := rfl
theorem textF_length (ep gen k n : Nat) (b : List UInt8) : (textF ep gen k n b).length = 18 + b.length := by unfold textF; rw [List.length_append, headF_length]
/-- A text with its digest behind it. -/
def sealF (t : List UInt8) : List UInt8 := t ++ SH.sumB t
def makeF (ep gen k n : Int) (b : ByteArray) : ByteArray × Int :=
  if mayF ep gen k n then (if b.size + 50 ≤ 65536 then (strB (sealF (textF ep.toNat gen.toNat k.toNat n.toNat b.data.toList)), 0) else (⟨#[]⟩, 40)) else (⟨#[]⟩, 1)
theorem mayF_true {ep gen k n : Int} : mayF ep gen k n = true ↔ (0 ≤ ep ∧ ep ≤ 2147483647) ∧ (0 ≤ gen ∧ gen ≤ 2147483647) ∧ 1 ≤ k ∧ k ≤ n ∧ n ≤ 12 := by
  unfold mayF cntF codeB
  simp only [Bool.and_eq_true, decide_eq_true_eq, and_assoc]
theorem join_flat (xs : List (List UInt8)) : Lib.join xs [] = xs.flatten := by
  unfold Lib.join List.intercalate
  induction xs with
  | nil => rfl
  | cons x xs ih =>
    cases xs with
    | nil => simp
    | cons y xs =>
      show x ++ ([] ++ (List.intersperse [] (y :: xs)).flatten) = _
      rw [ih]; rfl
theorem join_any (b c : Nat) (xs : List ByteArray) (w : World) (h : TextsAt w.heap (.slice (some ⟨b, 0, none⟩) xs.length c) xs) (h0 : 0 < xs.length) (hc : xs.length ≤ c) (hN : xs.length ≤ 1000) (hlen : (xs.map (·.data.toList)).flatten.length ≤ 140737488355328) :
    Calls Try.prog 50 #[.slice (some ⟨b, 0, none⟩) xs.length c, .string ⟨#[]⟩] w fun e w' => e = .returned (.string (strB (xs.map (·.data.toList)).flatten)) ∧ Keeps w w' := by
  have hcell : ∀ (j : Nat) x, xs[j]? = some x → w.cell? ⟨b, 0 + j, none⟩ = some (.string x) := fun j x hj => by
    obtain ⟨hj1, hj2⟩ := List.getElem?_eq_some_iff.1 hj
    obtain ⟨u, h1, h2⟩ := seq_at h hj1
    rw [h1, h2, hj2]
  have hb : b < w.heap.size := by
    obtain ⟨u, h1, _⟩ := seq_at h h0
    exact cell_lt h1
  have e0 : (⟨#[]⟩ : ByteArray).data.toList = [] := rfl
  refine (Sh.strings_Join b 0 c xs ⟨#[]⟩ w hcell hb (by omega) hc (by rw [e0, join_flat]; exact hlen)).mono fun e w' ⟨h1, h2⟩ => ⟨?_, h2.kept⟩
  rw [h1, e0, join_flat]; rfl
def manB : ByteArray := ⟨#[109, 97, 110, 49]⟩
def make3 (ep gen k n : Nat) (b : ByteArray) (T : List UInt8) (N : Nat) : Nat → Value → World → Prop
  | 22, v, w => ∃ q, v = .slice (some ⟨q, 0, none⟩) 7 7 ∧ TextsAt w.heap (.slice (some ⟨q, 0, none⟩) 7 7) [manB, strB (numB ep 4), strB (numB gen 4), strB (numB k 1), strB (numB n 1), strB (numB b.size 4), b]
  | i, v, _ => v = ([.pointer (some ⟨N, 0, none⟩), .pointer (some ⟨N, 0, none⟩), .int .i64 (ep : Int), .string (strB (numB ep 4)), .pointer (some ⟨N, 0, none⟩), .pointer (some ⟨N, 1, none⟩), .int .i64 (gen : Int), .string (strB (numB gen 4)), .pointer (some ⟨N, 2, none⟩), .pointer (some ⟨N, 2, none⟩), .int .i64 (k : Int), .string (strB (numB k 1)), .pointer (some ⟨N, 2, none⟩), .pointer (some ⟨N, 3, none⟩), .int .i64 (n : Int), .string (strB (numB n 1)), .pointer (some ⟨N, 4, none⟩), .string b, .int .i64 (b.size : Int), .string (strB (numB b.size 4)), .pointer (some ⟨N, 4, none⟩), .string b, undef, .string (strB T), .string (strB T)] : List Value).getD i undef
theorem make3_keeps {ep gen k n : Nat} {b : ByteArray} {T : List UInt8} {N : Nat} (i : Nat) (v : Value) (w w' : World) (c : Keeps w w') (h : make3 ep gen k n b T N i v w) : make3 ep gen k n b T N i v w' := by
  match i, h with
  | 0, h => exact h
  | 1, h => exact h
  | 2, h => exact h
  | 3, h => exact h
  | 4, h => exact h
  | 5, h => exact h
  | 6, h => exact h
  | 7, h => exact h
  | 8, h => exact h
  | 9, h => exact h
  | 10, h => exact h
  | 11, h => exact h
  | 12, h => exact h
  | 13, h => exact h
  | 14, h => exact h
  | 15, h => exact h
  | 16, h => exact h
  | 17, h => exact h
  | 18, h => exact h
  | 19, h => exact h
  | 20, h => exact h
  | 21, h => exact h
  | 22, h => exact h.imp fun q h => ⟨h.1, SeqAt.keeps h.2 c⟩
  | 23, h => exact h
  | 24, h => exact h
  | _ + 25, h => exact h
set_option maxRecDepth 100000 in
set_option maxHeartbeats 4000000 in
theorem frmake_any (ep gen k n : Int) (b : ByteArray) (w : World) (hb : b.size ≤ 140737488351232) : Calls Try.prog 31 #[frV ep gen k n b] w fun e w' => e = .returned (.tuple #[.string (makeF ep gen k n b).1, .int .i64 (makeF ep gen k n b).2]) ∧ Keeps w w' := by
  have HMK : Hid (makeF ep gen k n b = if mayF ep gen k n then (if b.size + 50 ≤ 65536 then (strB (sealF (textF ep.toNat gen.toNat k.toNat n.toNat b.data.toList)), 0) else (⟨#[]⟩, 40)) else (⟨#[]⟩, 1)) := rfl
  have HFM := Lib.hid (frmay_any ep gen k n b)
  unfold frV at HFM ⊢
  go_enter Try.func31, Try.ntmps31
  go_wp2_with fail
  refine Calls.mono (HFM.out _) ?_
  rintro e w2 ⟨rfl, hk⟩
  have HK : Hid (Keeps w w2) := Keeps.trans (kal w _) hk
  have E0 : Hid (w2.cell? ⟨w.heap.size, 0, none⟩ = some (.int .i64 ep)) := keeps_cell hk (World.cell?_alloc_new _ _ _ _)
  have E1 : Hid (w2.cell? ⟨w.heap.size, 1, none⟩ = some (.int .i64 gen)) := keeps_cell hk (World.cell?_alloc_new _ _ _ _)
  have E2 : Hid (w2.cell? ⟨w.heap.size, 2, none⟩ = some (.int .i64 k)) := keeps_cell hk (World.cell?_alloc_new _ _ _ _)
  have E3 : Hid (w2.cell? ⟨w.heap.size, 3, none⟩ = some (.int .i64 n)) := keeps_cell hk (World.cell?_alloc_new _ _ _ _)
  have E4 : Hid (w2.cell? ⟨w.heap.size, 4, none⟩ = some (.string b)) := keeps_cell hk (World.cell?_alloc_new _ _ _ _)
  clear hk HFM
  generalize w.heap.size = N at *
  cases hm : mayF ep gen k n with
  | false =>
    have HF : Hid (makeF ep gen k n b = (⟨#[]⟩, 1)) := by show _ = _; rw [HMK.out, hm]; rfl
    clear hm
    go_wp2_with fail
    go_ret2
    rw [HF.out]
    exact ⟨rfl, HK.out⟩
  | true =>
  obtain ⟨⟨p1, p2⟩, ⟨p3, p4⟩, p5, p6, p7⟩ := mayF_true.1 hm
  have HF0 : Hid (makeF ep gen k n b = (if b.size + 50 ≤ 65536 then (strB (sealF (textF ep.toNat gen.toNat k.toNat n.toNat b.data.toList)), 0) else (⟨#[]⟩, 40))) := by show _ = _; rw [HMK.out, hm]; rfl
  clear hm HMK
  obtain ⟨ep, rfl⟩ := Int.eq_ofNat_of_zero_le p1
  obtain ⟨gen, rfl⟩ := Int.eq_ofNat_of_zero_le p3
  obtain ⟨k, rfl⟩ := Int.eq_ofNat_of_zero_le (show 0 ≤ k by omega)
  obtain ⟨n, rfl⟩ := Int.eq_ofNat_of_zero_le (show 0 ≤ n by omega)
  have HF : Hid (makeF ep gen k n b = (if b.size + 50 ≤ 65536 then (strB (sealF (textF ep gen k n b.data.toList)), 0) else (⟨#[]⟩, 40))) := HF0.out
  clear HF0
  have HJ : Hid (([manB, strB (numB ep 4), strB (numB gen 4), strB (numB k 1), strB (numB n 1), strB (numB b.size 4), b].map (·.data.toList)).flatten = textF ep gen k n b.data.toList) := by
    show [109, 97, 110, 49] ++ (numB ep 4 ++ (numB gen 4 ++ (numB k 1 ++ (numB n 1 ++ (numB b.size 4 ++ (b.data.toList ++ [])))))) = _
    rw [numB_four, numB_four, numB_four, numB_one, numB_one, List.append_nil]
    unfold textF headF
    rw [data_size]
    simp only [List.append_assoc]
  have HTL : Hid ((textF ep gen k n b.data.toList).length = 18 + b.size) := by show _ = _; rw [textF_length, data_size]
  generalize textF ep gen k n b.data.toList = T at *
  go_wp2_with fail
  refine wp_region_stage [8, 9, 10, 11, 12, 13, 14, 15, 16, 17, 18, 19, 20, 21, 22, 23, 24, 25, 26, 27, 28, 29, 30, 31, 4] [[], [0], [1], [2], [], [4], [5], [6], [], [8], [9], [10], [], [12], [13], [14], [], [16], [17], [18], [], [20], [3, 7, 11, 15, 19, 21], [22], [23]] [] [0, 0, 0, 0, 0, 0, 0, 0, 0, 0, 0, 0, 0, 0, 0, 0, 0, 0, 0, 0, 0, 0, 0, 0, 0] [] (make3 ep gen k n b T N) (fun w w' => Keeps w w') (fun _ _ w' => Keeps w2 w') (by kernel_rfl) (by kernel_rfl) (by kernel_rfl) (by kernel_rfl) (by kernel_rfl) (by kernel_rfl) (by kernel_rfl) ?_ ?_ ?_ ?_ ?_ ?_ ?_
  · exact fun i v w w' c h => make3_keeps i v w w' c h
  · exact fun w => keeps_refl w
  · exact fun i s vs w h => by cases h
  · refine ⟨?_, ?_, ?_, ?_, ?_, ?_, ?_, ?_, ?_, ?_, ?_, ?_, ?_, ?_, ?_, ?_, ?_, ?_, ?_, ?_, ?_, ?_, ?_, ?_, ?_, trivial⟩
    · exact fun g b h => by (cases h)
    · exact fun g b h => by (cases h)
    · exact fun g b h => by (cases h)
    · exact fun g b h => by (cases h)
    · exact fun g b h => by (cases h)
    · exact fun g b h => by (cases h)
    · exact fun g b h => by (cases h)
    · exact fun g b h => by (cases h)
    · exact fun g b h => by (cases h)
    · exact fun g b h => by (cases h)
    · exact fun g b h => by (cases h)
    · exact fun g b h => by (cases h)
    · exact fun g b h => by (cases h)
    · exact fun g b h => by (cases h)
    · exact fun g b h => by (cases h)
    · exact fun g b h => by (cases h)
    · exact fun g b h => by (cases h)
    · exact fun g b h => by (cases h)
    · exact fun g b h => by (cases h)
    · exact fun g b h => by (cases h)
    · exact fun g b h => by (cases h)
    · exact fun g b h => by (cases h)
    · exact fun g b h => by (cases h)
    · exact fun g b h => by (cases h)
    · exact fun g b h => by (cases h)
  · exact fun _ _ => keeps_refl w2
  · refine ⟨?_, ?_, ?_, ?_, ?_, ?_, ?_, ?_, ?_, ?_, ?_, ?_, ?_, ?_, ?_, ?_, ?_, ?_, ?_, ?_, ?_, ?_, ?_, ?_, ?_, trivial⟩
    · intro _ a w1 vs hI ho hn hu K hK
      have e1 : a.tmps[1]? = some (.pointer (some ⟨N, 0, none⟩)) := ho 1 rfl
      clear hn ho hu
      go_simp
      exact hK _ _ (keeps_refl _) hI rfl
    · intro _ a w1 vs hI ho hn hu K hK
      obtain ⟨e8, g8⟩ : a.tmps[8]? = some (vs 0) ∧ vs 0 = .pointer (some ⟨N, 0, none⟩) := hn 0 (by decide)
      rw [g8] at e8
      clear g8
      clear hn ho hu
      go_simp
      exact hK _ _ (keeps_refl _) hI rfl
    · intro _ a w1 vs hI ho hn hu K hK
      obtain ⟨e9, g9⟩ : a.tmps[9]? = some (vs 1) ∧ vs 1 = .pointer (some ⟨N, 0, none⟩) := hn 1 (by decide)
      rw [g9] at e9
      clear g9
      clear hn ho hu
      have c := keeps_cell hI E0.out
      go_simp
      exact hK _ _ (keeps_refl _) hI rfl
    · intro _ a w1 vs hI ho hn hu K hK
      obtain ⟨e10, g10⟩ : a.tmps[10]? = some (vs 2) ∧ vs 2 = .int .i64 (ep : Int) := hn 2 (by decide)
      rw [g10] at e10
      clear g10
      clear hn ho hu
      go_simp
      refine Calls.mono (frnum_any ep 4 _ (by omega) (by omega)) ?_
      rintro e w' ⟨rfl, hk2⟩
      go_simp
      exact hK _ _ hk2 (Keeps.trans hI hk2) rfl
    · intro _ a w1 vs hI ho hn hu K hK
      have e1 : a.tmps[1]? = some (.pointer (some ⟨N, 0, none⟩)) := ho 1 rfl
      clear hn ho hu
      go_simp
      exact hK _ _ (keeps_refl _) hI rfl
    · intro _ a w1 vs hI ho hn hu K hK
      obtain ⟨e12, g12⟩ : a.tmps[12]? = some (vs 4) ∧ vs 4 = .pointer (some ⟨N, 0, none⟩) := hn 4 (by decide)
      rw [g12] at e12
      clear g12
      clear hn ho hu
      go_simp
      exact hK _ _ (keeps_refl _) hI rfl
    · intro _ a w1 vs hI ho hn hu K hK
      obtain ⟨e13, g13⟩ : a.tmps[13]? = some (vs 5) ∧ vs 5 = .pointer (some ⟨N, 1, none⟩) := hn 5 (by decide)
      rw [g13] at e13
      clear g13
      clear hn ho hu
      have c := keeps_cell hI E1.out
      go_simp
      exact hK _ _ (keeps_refl _) hI rfl
    · intro _ a w1 vs hI ho hn hu K hK
      obtain ⟨e14, g14⟩ : a.tmps[14]? = some (vs 6) ∧ vs 6 = .int .i64 (gen : Int) := hn 6 (by decide)
      rw [g14] at e14
      clear g14
      clear hn ho hu
      go_simp
      refine Calls.mono (frnum_any gen 4 _ (by omega) (by omega)) ?_
      rintro e w' ⟨rfl, hk2⟩
      go_simp
      exact hK _ _ hk2 (Keeps.trans hI hk2) rfl
    · intro _ a w1 vs hI ho hn hu K hK
      have e1 : a.tmps[1]? = some (.pointer (some ⟨N, 0, none⟩)) := ho 1 rfl
      clear hn ho hu
      go_simp
      exact hK _ _ (keeps_refl _) hI rfl
    · intro _ a w1 vs hI ho hn hu K hK
      obtain ⟨e16, g16⟩ : a.tmps[16]? = some (vs 8) ∧ vs 8 = .pointer (some ⟨N, 2, none⟩) := hn 8 (by decide)
      rw [g16] at e16
      clear g16
      clear hn ho hu
      go_simp
      exact hK _ _ (keeps_refl _) hI rfl
    · intro _ a w1 vs hI ho hn hu K hK
      obtain ⟨e17, g17⟩ : a.tmps[17]? = some (vs 9) ∧ vs 9 = .pointer (some ⟨N, 2, none⟩) := hn 9 (by decide)
      rw [g17] at e17
      clear g17
      clear hn ho hu
      have c := keeps_cell hI E2.out
      go_simp
      exact hK _ _ (keeps_refl _) hI rfl
    · intro _ a w1 vs hI ho hn hu K hK
      obtain ⟨e18, g18⟩ : a.tmps[18]? = some (vs 10) ∧ vs 10 = .int .i64 (k : Int) := hn 10 (by decide)
      rw [g18] at e18
      clear g18
      clear hn ho hu
      go_simp
      refine Calls.mono (frnum_any k 1 _ (by omega) (by omega)) ?_
      rintro e w' ⟨rfl, hk2⟩
      go_simp
      exact hK _ _ hk2 (Keeps.trans hI hk2) rfl
    · intro _ a w1 vs hI ho hn hu K hK
      have e1 : a.tmps[1]? = some (.pointer (some ⟨N, 0, none⟩)) := ho 1 rfl
      clear hn ho hu
      go_simp
      exact hK _ _ (keeps_refl _) hI rfl
    · intro _ a w1 vs hI ho hn hu K hK
      obtain ⟨e20, g20⟩ : a.tmps[20]? = some (vs 12) ∧ vs 12 = .pointer (some ⟨N, 2, none⟩) := hn 12 (by decide)
      rw [g20] at e20
      clear g20
      clear hn ho hu
      go_simp
      exact hK _ _ (keeps_refl _) hI rfl
    · intro _ a w1 vs hI ho hn hu K hK
      obtain ⟨e21, g21⟩ : a.tmps[21]? = some (vs 13) ∧ vs 13 = .pointer (some ⟨N, 3, none⟩) := hn 13 (by decide)
      rw [g21] at e21
      clear g21
      clear hn ho hu
      have c := keeps_cell hI E3.out
      go_simp
      exact hK _ _ (keeps_refl _) hI rfl
    · intro _ a w1 vs hI ho hn hu K hK
      obtain ⟨e22, g22⟩ : a.tmps[22]? = some (vs 14) ∧ vs 14 = .int .i64 (n : Int) := hn 14 (by decide)
      rw [g22] at e22
      clear g22
      clear hn ho hu
      go_simp
      refine Calls.mono (frnum_any n 1 _ (by omega) (by omega)) ?_
      rintro e w' ⟨rfl, hk2⟩
      go_simp
      exact hK _ _ hk2 (Keeps.trans hI hk2) rfl
    · intro _ a w1 vs hI ho hn hu K hK
      have e1 : a.tmps[1]? = some (.pointer (some ⟨N, 0, none⟩)) := ho 1 rfl
      clear hn ho hu
      go_simp
      exact hK _ _ (keeps_refl _) hI rfl
    · intro _ a w1 vs hI ho hn hu K hK
      obtain ⟨e24, g24⟩ : a.tmps[24]? = some (vs 16) ∧ vs 16 = .pointer (some ⟨N, 4, none⟩) := hn 16 (by decide)
      rw [g24] at e24
      clear g24
      clear hn ho hu
      have c := keeps_cell hI E4.out
      go_simp
      exact hK _ _ (keeps_refl _) hI rfl
    · intro _ a w1 vs hI ho hn hu K hK
      obtain ⟨e25, g25⟩ : a.tmps[25]? = some (vs 17) ∧ vs 17 = .string b := hn 17 (by decide)
      rw [g25] at e25
      clear g25
      clear hn ho hu
      go_simp
      exact hK _ _ (keeps_refl _) hI rfl
    · intro _ a w1 vs hI ho hn hu K hK
      obtain ⟨e26, g26⟩ : a.tmps[26]? = some (vs 18) ∧ vs 18 = .int .i64 (b.size : Int) := hn 18 (by decide)
      rw [g26] at e26
      clear g26
      clear hn ho hu
      go_simp
      refine Calls.mono (frnum_any b.size 4 _ (by omega) (by omega)) ?_
      rintro e w' ⟨rfl, hk2⟩
      go_simp
      exact hK _ _ hk2 (Keeps.trans hI hk2) rfl
    · intro _ a w1 vs hI ho hn hu K hK
      have e1 : a.tmps[1]? = some (.pointer (some ⟨N, 0, none⟩)) := ho 1 rfl
      clear hn ho hu
      go_simp
      exact hK _ _ (keeps_refl _) hI rfl
    · intro _ a w1 vs hI ho hn hu K hK
      obtain ⟨e28, g28⟩ : a.tmps[28]? = some (vs 20) ∧ vs 20 = .pointer (some ⟨N, 4, none⟩) := hn 20 (by decide)
      rw [g28] at e28
      clear g28
      clear hn ho hu
      have c := keeps_cell hI E4.out
      go_simp
      exact hK _ _ (keeps_refl _) hI rfl
    · intro _ a w1 vs hI ho hn hu K hK
      obtain ⟨e11, g11⟩ : a.tmps[11]? = some (vs 3) ∧ vs 3 = .string (strB (numB ep 4)) := hn 3 (by decide)
      rw [g11] at e11
      clear g11
      obtain ⟨e15, g15⟩ : a.tmps[15]? = some (vs 7) ∧ vs 7 = .string (strB (numB gen 4)) := hn 7 (by decide)
      rw [g15] at e15
      clear g15
      obtain ⟨e19, g19⟩ : a.tmps[19]? = some (vs 11) ∧ vs 11 = .string (strB (numB k 1)) := hn 11 (by decide)
      rw [g19] at e19
      clear g19
      obtain ⟨e23, g23⟩ : a.tmps[23]? = some (vs 15) ∧ vs 15 = .string (strB (numB n 1)) := hn 15 (by decide)
      rw [g23] at e23
      clear g23
      obtain ⟨e27, g27⟩ : a.tmps[27]? = some (vs 19) ∧ vs 19 = .string (strB (numB b.size 4)) := hn 19 (by decide)
      rw [g27] at e27
      clear g27
      obtain ⟨e29, g29⟩ : a.tmps[29]? = some (vs 21) ∧ vs 21 = .string b := hn 21 (by decide)
      rw [g29] at e29
      clear g29
      clear hn ho hu
      go_simp
      exact hK _ _ (kal _ _) (Keeps.trans hI (kal _ _)) ⟨_, rfl, textsAt_lit w1 [manB, strB (numB ep 4), strB (numB gen 4), strB (numB k 1), strB (numB n 1), strB (numB b.size 4), b] 7 7 rfl (by omega)⟩
    · intro _ a w1 vs hI ho hn hu K hK
      obtain ⟨e30, g30⟩ : a.tmps[30]? = some (vs 22) ∧ ∃ q, (vs 22) = .slice (some ⟨q, 0, none⟩) 7 7 ∧ TextsAt w1.heap (.slice (some ⟨q, 0, none⟩) 7 7) [manB, strB (numB ep 4), strB (numB gen 4), strB (numB k 1), strB (numB n 1), strB (numB b.size 4), b] := hn 22 (by decide)
      clear hn ho hu
      obtain ⟨q, e9, g9⟩ := g30
      rw [e9] at e30
      go_simp
      refine Calls.mono (join_any q 7 [manB, strB (numB ep 4), strB (numB gen 4), strB (numB k 1), strB (numB n 1), strB (numB b.size 4), b] _ g9 (by simp) (by simp) (by simp) (by rw [HJ.out, HTL.out]; omega)) ?_
      rintro e w' ⟨rfl, hk2⟩
      rw [HJ.out]
      go_simp
      exact hK _ _ hk2 (Keeps.trans hI hk2) rfl
    · intro _ a w1 vs hI ho hn hu K hK
      obtain ⟨e31, g31⟩ : a.tmps[31]? = some (vs 23) ∧ vs 23 = .string (strB T) := hn 23 (by decide)
      rw [g31] at e31
      clear g31
      clear hn ho hu
      go_simp
      exact hK _ _ (keeps_refl _) hI rfl
  · intro vs w4 hI hG
    have eL : vs 24 = .string (strB T) := hG 24 (by decide)
    have HK4 := Lib.hid (HK.out.trans hI)
    clear hG hI
    simp only [setAll, Nat.zero_add, Nat.reduceAdd, List.setIfInBounds_toArray, List.set_cons_zero, List.set_cons_succ, eL]
    clear eL HJ
    generalize vs 0 = y0 at *
    generalize vs 1 = y1 at *
    generalize vs 2 = y2 at *
    generalize vs 3 = y3 at *
    generalize vs 4 = y4 at *
    generalize vs 5 = y5 at *
    generalize vs 6 = y6 at *
    generalize vs 7 = y7 at *
    generalize vs 8 = y8 at *
    generalize vs 9 = y9 at *
    generalize vs 10 = y10 at *
    generalize vs 11 = y11 at *
    generalize vs 12 = y12 at *
    generalize vs 13 = y13 at *
    generalize vs 14 = y14 at *
    generalize vs 15 = y15 at *
    generalize vs 16 = y16 at *
    generalize vs 17 = y17 at *
    generalize vs 18 = y18 at *
    generalize vs 19 = y19 at *
    generalize vs 20 = y20 at *
    generalize vs 21 = y21 at *
    generalize vs 22 = y22 at *
    generalize vs 23 = y23 at *
    have HSZ : Hid ((strB T).size = 18 + b.size) := by show _ = _; rw [strB_size]; exact HTL.out
    have HSM := Lib.hid (fun wx h => ssum_any (strB T) wx h)
    have HAP : Hid (strB T ++ strB (SH.sumB T) = strB (sealF T)) := by show _ = _; rw [strB_append]; rfl
    have sz2 : (strB (SH.sumB T)).size ≤ 32 := by rw [strB_size, SH.sumB_length]; omega
    clear p1 p2 p3 p4 p5 p6 p7 E0 E1 E2 E3 E4
    have eT : (strB T).data.toList = T := rfl
    rw [eT] at HSM
    clear eT
    generalize strB T = s at *
    generalize strB (SH.sumB T) = d at *
    have hsz := HSZ.out
    clear HSZ HTL
    have sb : s.size ≤ 140737488351269 := by omega
    by_cases hbig : b.size + 50 ≤ 65536
    · have HG : Hid (makeF ep gen k n b = (strB (sealF T), 0)) := by show _ = _; rw [HF.out, if_pos hbig]
      have g1 : (s.size : Int) + 32 ≤ 65536 := by omega
      have g2 : s.size ≤ 65504 := by omega
      have g3 : decide (65536 < (s.size : Int) + 32) = false := decide_eq_false (by omega)
      clear hbig sb hb g1
      clear HF hsz
      go_wp2_with fail
      refine Calls.mono (HSM.out _ (by omega)) ?_
      rintro e w5 ⟨rfl, hk⟩
      have HK5 := Lib.hid (HK4.out.trans hk)
      clear hk
      go_wp2_with fail
      go_ret2
      rw [HG.out]
      exact ⟨by rw [← HAP.out]; rfl, HK5.out⟩
    · have HG : Hid (makeF ep gen k n b = (⟨#[]⟩, 40)) := by show _ = _; rw [HF.out, if_neg hbig]
      have g1 : 65536 < (s.size : Int) + 32 := by omega
      have g3 : decide (65536 < (s.size : Int) + 32) = true := decide_eq_true g1
      clear hbig hb
      clear HF hsz
      go_wp2_with fail
      go_ret2
      rw [HG.out]
      exact ⟨rfl, HK4.out⟩
end Go.Proofs.Ytcapalofocmmoaa
