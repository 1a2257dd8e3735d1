/- The walk of the law PackNames. -/
import Derived.Test.YteandjophamipaaManyLaw
import Derived.Test.YteandjophamipaaLawMore
import Derived.Deep.Cut
import Derived.Test.YteandjophamipaaDraw
namespace Go.Proofs.Yteandjophamipaa
open Go.RowKit
theorem guard_none {need : List (List Nat)} {G : Nat → Value → World → Prop} {i : Nat} {o : Oper} (h : o.guard = none) : GuardAt need G i o := fun g b e => by rw [h] at e; cases e
def names15 (N3 N4 : Nat) (p5 : Option Addr) (q5 : Nat) (p6 : Option Addr) (q6 : Nat) (p7 : Option Addr) (q7 : Nat) : Nat → Value → World → Prop
  | 10, v, w => TextsAt w.heap v [manyB 2048 97, manyB 2048 98, cB]
  | 20, v, w => TextsAt w.heap v [cB, manyB 2048 97, manyB 2048 98]
  | 33, v, w => TextsAt w.heap v [manyB 16384 97 ++ aB]
  | 40, v, w => TextsAt w.heap v [manyB 16384 97, bB]
  | 47, v, w => TextsAt w.heap v [bB, manyB 16384 97]
  | 61, v, w => SeqAt IsInt w.heap v [8]
  | i, v, _ => v = ([.slice (some ⟨N3, 0, none⟩) 2 2, .bool true, .bool false, .bool false, .slice (some ⟨N3, 0, none⟩) 2 2, .pointer (some ⟨N3, 0, none⟩), .string (manyB 2048 97), .slice (some ⟨N3, 0, none⟩) 2 2, .pointer (some ⟨N3, 1, none⟩), .string (manyB 2048 98), undef, .bool false, .bool false, .bool false, .slice (some ⟨N3, 0, none⟩) 2 2, .pointer (some ⟨N3, 0, none⟩), .string (manyB 2048 97), .slice (some ⟨N3, 0, none⟩) 2 2, .pointer (some ⟨N3, 1, none⟩), .string (manyB 2048 98), undef, .bool false, .bool false, .bool false, .slice (some ⟨N4, 0, none⟩) 1 1, .bool true, .bool false, .bool false, .bool false, .slice (some ⟨N4, 0, none⟩) 1 1, .pointer (some ⟨N4, 0, none⟩), .string (manyB 16384 97), .string (manyB 16384 97 ++ aB), undef, .bool false, .bool false, .bool false, .slice (some ⟨N4, 0, none⟩) 1 1, .pointer (some ⟨N4, 0, none⟩), .string (manyB 16384 97), undef, .bool false, .bool false, .bool false, .slice (some ⟨N4, 0, none⟩) 1 1, .pointer (some ⟨N4, 0, none⟩), .string (manyB 16384 97), undef, .bool false, .bool false, .bool false, .int .i64 0, .bool false, .bool false, .bool false, .string (strB (blobP oneP)), .int .i64 16392, .bool false, .bool false, .bool false, .slice p5 1 q5, undef, .bool true, .bool false, .bool false, .bool false, .int .i64 0, .bool false, .bool false, .bool false, .slice p6 1 q6, .slice (some ⟨N4, 0, none⟩) 1 1, .bool true, .bool false, .bool false, .bool false, .slice p7 1 q7, .slice p5 1 q5, .bool true, .bool false, .bool false] : List Value).getD i undef
theorem names15_keeps {N3 N4 : Nat} {p5 : Option Addr} {q5 : Nat} {p6 : Option Addr} {q6 : Nat} {p7 : Option Addr} {q7 : Nat} (i : Nat) (v : Value) (w w' : World) (k : Keeps w w') (h : names15 N3 N4 p5 q5 p6 q6 p7 q7 i v w) : names15 N3 N4 p5 q5 p6 q6 p7 q7 i v w' := by
  match i, h with
  | 0, h => exact h
  | 1, h => exact h
  | 2, h => exact h
  | 3, h => exact h
  | 4, h => exact h
  | 5, h => exact h
  | 6, h => exact h
  | 7, h => exact h
  | 8, h => exact h
  | 9, h => exact h
  | 10, h => exact SeqAt.keeps h k
  | 11, h => exact h
  | 12, h => exact h
  | 13, h => exact h
  | 14, h => exact h
  | 15, h => exact h
  | 16, h => exact h
  | 17, h => exact h
  | 18, h => exact h
  | 19, h => exact h
  | 20, h => exact SeqAt.keeps h k
  | 21, h => exact h
  | 22, h => exact h
  | 23, h => exact h
  | 24, h => exact h
  | 25, h => exact h
  | 26, h => exact h
  | 27, h => exact h
  | 28, h => exact h
  | 29, h => exact h
  | 30, h => exact h
  | 31, h => exact h
  | 32, h => exact h
  | 33, h => exact SeqAt.keeps h k
  | 34, h => exact h
  | 35, h => exact h
  | 36, h => exact h
  | 37, h => exact h
  | 38, h => exact h
  | 39, h => exact h
  | 40, h => exact SeqAt.keeps h k
  | 41, h => exact h
  | 42, h => exact h
  | 43, h => exact h
  | 44, h => exact h
  | 45, h => exact h
  | 46, h => exact h
  | 47, h => exact SeqAt.keeps h k
  | 48, h => exact h
  | 49, h => exact h
  | 50, h => exact h
  | 51, h => exact h
  | 52, h => exact h
  | 53, h => exact h
  | 54, h => exact h
  | 55, h => exact h
  | 56, h => exact h
  | 57, h => exact h
  | 58, h => exact h
  | 59, h => exact h
  | 60, h => exact h
  | 61, h => exact SeqAt.keeps h k
  | 62, h => exact h
  | 63, h => exact h
  | 64, h => exact h
  | 65, h => exact h
  | 66, h => exact h
  | 67, h => exact h
  | 68, h => exact h
  | 69, h => exact h
  | 70, h => exact h
  | 71, h => exact h
  | 72, h => exact h
  | 73, h => exact h
  | 74, h => exact h
  | 75, h => exact h
  | 76, h => exact h
  | 77, h => exact h
  | 78, h => exact h
  | 79, h => exact h
  | 80, h => exact h
  | _ + 81, h => exact h
set_option maxRecDepth 100000 in
set_option maxHeartbeats 4000000 in
theorem pnames_any (w : World) : Calls Try.prog 5 #[] w fun e w' => e = .returned (.bool true) ∧ Keeps w w' := by
  go_enter Try.func5, Try.ntmps5
  go_wp2_with fail
  refine Calls.mono (pworks_any _) ?_
  rintro e w1 ⟨rfl, hk⟩
  have HK := Lib.hid hk
  clear hk
  go_wp2_with fail
  refine Calls.mono (many_any 2048 97 _ (by omega)) ?_
  rintro e w2 ⟨rfl, hk⟩
  have HK := Lib.hid (HK.out.trans hk)
  clear hk
  go_wp2_with fail
  refine Calls.mono (many_any 2048 98 _ (by omega)) ?_
  rintro e w3 ⟨rfl, hk⟩
  have HK := Lib.hid (HK.out.trans hk)
  clear hk
  have HF : Hid (TextsAt (w3.alloc (.cells #[.string (manyB 2048 97), .string (manyB 2048 98)] 9)).heap (.slice (some ⟨w3.heap.size, 0, none⟩) 2 2) fullP) := textsAt_lit w3 fullP 2 2 rfl (by omega)
  go_wp2_with fail
  refine Calls.mono (many_any 16384 97 _ (by omega)) ?_
  rintro e w4 ⟨rfl, hk⟩
  have HF := Lib.hid (SeqAt.keeps HF.out hk)
  have HK := Lib.hid (HK.out.trans ((kal _ _).trans hk))
  have HO : Hid (TextsAt (w4.alloc (.cells #[.string (manyB 16384 97)] 9)).heap (.slice (some ⟨w4.heap.size, 0, none⟩) 1 1) oneP) := textsAt_lit w4 oneP 1 1 rfl (by omega)
  have HF := Lib.hid (HF.out.al (.cells #[.string (manyB 16384 97)] 9))
  clear hk
  go_wp2_with fail
  refine Calls.mono (makeP_e (pmake_any _ oneP _ HO.out) make_one) ?_
  rintro e w5 ⟨v5, rfl, ha, hk⟩
  have HF := Lib.hid (SeqAt.keeps HF.out hk)
  have HO := Lib.hid (SeqAt.keeps HO.out hk)
  have HA := Lib.hid (SeqIn.at_ ha)
  have HK := Lib.hid (HK.out.trans ((kal _ _).trans hk))
  clear ha hk
  go_wp2_with fail
  refine Calls.mono (readP_e (pread_any (strB (blobP oneP)) _ (by rw [one_len]; omega)) read_one) ?_
  rintro e w6 ⟨v6, u6, rfl, ha, hb, hk⟩
  have HF := Lib.hid (SeqAt.keeps HF.out hk)
  have HO := Lib.hid (SeqAt.keeps HO.out hk)
  have HA := Lib.hid (SeqAt.keeps HA.out hk)
  have HL := Lib.hid (SeqIn.at_ ha)
  have HB := Lib.hid (SeqIn.at_ hb)
  have HK := Lib.hid (HK.out.trans hk)
  clear ha hb hk
  go_upto_region 7 with (fail)
  simp only [List.append]
  go_wp2_with fail
  -- REGION 7
  have F0 : Hid (w6.cell? ⟨w3.heap.size, 0, none⟩ = some (.string (manyB 2048 97))) := textsV_at (l := fullP) HF.out 0 (by decide)
  have F1 : Hid (w6.cell? ⟨w3.heap.size, 1, none⟩ = some (.string (manyB 2048 98))) := by
    have h := textsV_at (l := fullP) HF.out 1 (by decide)
    rw [Nat.zero_add] at h
    exact h
  have O0 : Hid (w6.cell? ⟨w4.heap.size, 0, none⟩ = some (.string (manyB 16384 97))) := textsV_at (l := oneP) HO.out 0 (by decide)
  obtain ⟨p5, q5, rfl⟩ := seq_shape HA.out
  obtain ⟨p6, q6, rfl⟩ := seq_shape HL.out
  obtain ⟨p7, q7, rfl⟩ := seq_shape HB.out
  generalize w3.heap.size = N3 at *
  generalize w4.heap.size = N4 at *
  refine wp_region_drawn [42, 43, 44, 45, 46, 47, 48, 49, 50, 51, 52, 53, 54, 55, 56, 57, 58, 59, 60, 61, 62, 63, 64, 65, 66, 67, 68, 69, 70, 71, 72, 73, 74, 75, 76, 77, 78, 79, 80, 81, 82, 83, 84, 85, 86, 87, 88, 89, 90, 91, 92, 93, 94, 95, 96, 97, 98, 99, 100, 101, 102, 103, 104, 105, 106, 107, 108, 109, 110, 111, 112, 113, 114, 115, 116, 117, 118, 119, 120, 121, 122] [[], [0], [1], [2], [3], [3, 4], [3, 5], [3], [3, 7], [3, 8], [3, 6, 9], [3, 10], [3, 11], [12], [13], [13, 14], [13, 15], [13], [13, 17], [13, 18], [13, 16, 19], [13, 20], [13, 21], [22], [23], [23, 24], [23, 25], [23, 26], [27], [28], [28, 29], [28, 30], [28, 31], [28, 32], [28, 33], [28, 34], [35], [36], [36, 37], [36, 38], [36, 39], [36, 40], [36, 41], [42], [43], [43, 44], [43, 45], [43, 46], [43, 47], [43, 48], [49], [50], [50, 51], [50, 52], [53], [54], [54, 55], [54, 56], [54, 57], [58], [59], [59], [59, 60, 61], [59, 62], [59, 63], [64], [65], [65, 66], [65, 67], [68], [69], [69], [69, 70, 71], [69, 72], [69, 73], [74], [75], [75], [75, 76, 77], [75, 78], [75, 79]] (names15 N3 N4 p5 q5 p6 q6 p7 q7) (by kernel_rfl) (by kernel_rfl) (by kernel_rfl) (by kernel_rfl) (by kernel_rfl) ?_ ?_ ?_ ?_
  · exact names15_keeps
  · (repeat (first | exact trivial | (refine ⟨guard_none rfl, ?_⟩) | (refine ⟨fun g b h => by (cases h; exact ⟨by decide, fun v w h => h⟩), ?_⟩)))
  · refine ⟨?_, ?_, ?_, ?_, ?_, ?_, ?_, ?_, ?_, ?_, ?_, ?_, ?_, ?_, ?_, ?_, ?_, ?_, ?_, ?_, ?_, ?_, ?_, ?_, ?_, ?_, ?_, ?_, ?_, ?_, ?_, ?_, ?_, ?_, ?_, ?_, ?_, ?_, ?_, ?_, ?_, ?_, ?_, ?_, ?_, ?_, ?_, ?_, ?_, ?_, ?_, ?_, ?_, ?_, ?_, ?_, ?_, ?_, ?_, ?_, ?_, ?_, ?_, ?_, ?_, ?_, ?_, ?_, ?_, ?_, ?_, ?_, ?_, ?_, ?_, ?_, ?_, ?_, ?_, ?_, ?_, trivial⟩
    · intro a w1 vs hk ho hn K hK
      have e1 : a.tmps[1]? = some (.slice (some ⟨N3, 0, none⟩) 2 2) := ho 1 rfl
      clear hn ho
      go_simp
      exact hK _ _ (keeps_refl _) rfl
    · intro a w1 vs hk ho hn K hK
      obtain ⟨e42, g42⟩ : a.tmps[42]? = some (vs 0) ∧ vs 0 = .slice (some ⟨N3, 0, none⟩) 2 2 := hn 0 (by decide)
      rw [g42] at e42
      clear g42
      clear hn ho
      go_simp
      refine Calls.mono (pmay_e _ fullP _ (SeqAt.keeps HF.out hk) _ may_full) ?_
      rintro e w' ⟨rfl, hk2⟩
      go_simp
      exact hK _ _ hk2 rfl
    · intro a w1 vs hk ho hn K hK
      obtain ⟨e43, g43⟩ : a.tmps[43]? = some (vs 1) ∧ vs 1 = .bool true := hn 1 (by decide)
      rw [g43] at e43
      clear g43
      clear hn ho
      go_simp
      exact hK _ _ (keeps_refl _) rfl
    · intro a w1 vs hk ho hn K hK
      obtain ⟨e44, g44⟩ : a.tmps[44]? = some (vs 2) ∧ vs 2 = .bool false := hn 2 (by decide)
      rw [g44] at e44
      clear g44
      clear hn ho
      go_simp
      exact hK _ _ (keeps_refl _) rfl
    · intro a w1 vs hk ho hn K hK
      have e1 : a.tmps[1]? = some (.slice (some ⟨N3, 0, none⟩) 2 2) := ho 1 rfl
      clear hn ho
      go_simp
      exact hK _ _ (keeps_refl _) rfl
    · intro a w1 vs hk ho hn K hK
      obtain ⟨e46, g46⟩ : a.tmps[46]? = some (vs 4) ∧ vs 4 = .slice (some ⟨N3, 0, none⟩) 2 2 := hn 4 (by decide)
      rw [g46] at e46
      clear g46
      clear hn ho
      go_simp
      exact hK _ _ (keeps_refl _) rfl
    · intro a w1 vs hk ho hn K hK
      obtain ⟨e47, g47⟩ : a.tmps[47]? = some (vs 5) ∧ vs 5 = .pointer (some ⟨N3, 0, none⟩) := hn 5 (by decide)
      rw [g47] at e47
      clear g47
      clear hn ho
      have c := keeps_cell hk F0.out
      go_simp
      exact hK _ _ (keeps_refl _) rfl
    · intro a w1 vs hk ho hn K hK
      have e1 : a.tmps[1]? = some (.slice (some ⟨N3, 0, none⟩) 2 2) := ho 1 rfl
      clear hn ho
      go_simp
      exact hK _ _ (keeps_refl _) rfl
    · intro a w1 vs hk ho hn K hK
      obtain ⟨e49, g49⟩ : a.tmps[49]? = some (vs 7) ∧ vs 7 = .slice (some ⟨N3, 0, none⟩) 2 2 := hn 7 (by decide)
      rw [g49] at e49
      clear g49
      clear hn ho
      go_simp
      exact hK _ _ (keeps_refl _) rfl
    · intro a w1 vs hk ho hn K hK
      obtain ⟨e50, g50⟩ : a.tmps[50]? = some (vs 8) ∧ vs 8 = .pointer (some ⟨N3, 1, none⟩) := hn 8 (by decide)
      rw [g50] at e50
      clear g50
      clear hn ho
      have c := keeps_cell hk F1.out
      go_simp
      exact hK _ _ (keeps_refl _) rfl
    · intro a w1 vs hk ho hn K hK
      obtain ⟨e48, g48⟩ : a.tmps[48]? = some (vs 6) ∧ vs 6 = .string (manyB 2048 97) := hn 6 (by decide)
      rw [g48] at e48
      clear g48
      obtain ⟨e51, g51⟩ : a.tmps[51]? = some (vs 9) ∧ vs 9 = .string (manyB 2048 98) := hn 9 (by decide)
      rw [g51] at e51
      clear g51
      clear hn ho
      go_simp
      exact hK _ _ (kal _ _) (textsAt_lit w1 [manyB 2048 97, manyB 2048 98, cB] 3 3 rfl (by omega))
    · intro a w1 vs hk ho hn K hK
      obtain ⟨e52, g52⟩ : a.tmps[52]? = some (vs 10) ∧ TextsAt w1.heap (vs 10) [manyB 2048 97, manyB 2048 98, cB] := hn 10 (by decide)
      clear hn ho
      go_simp
      refine Calls.mono (pmay_e _ _ _ g52 _ may_full1) ?_
      rintro e w' ⟨rfl, hk2⟩
      go_simp
      exact hK _ _ hk2 rfl
    · intro a w1 vs hk ho hn K hK
      obtain ⟨e45, g45⟩ : a.tmps[45]? = some (vs 3) ∧ vs 3 = .bool false := hn 3 (by decide)
      rw [g45] at e45
      clear g45
      obtain ⟨e53, g53⟩ : a.tmps[53]? = some (vs 11) ∧ vs 11 = .bool false := hn 11 (by decide)
      rw [g53] at e53
      clear g53
      clear hn ho
      go_simp
      exact hK _ _ (keeps_refl _) rfl
    · intro a w1 vs hk ho hn K hK
      obtain ⟨e54, g54⟩ : a.tmps[54]? = some (vs 12) ∧ vs 12 = .bool false := hn 12 (by decide)
      rw [g54] at e54
      clear g54
      clear hn ho
      go_simp
      exact hK _ _ (keeps_refl _) rfl
    · intro a w1 vs hk ho hn K hK
      have e1 : a.tmps[1]? = some (.slice (some ⟨N3, 0, none⟩) 2 2) := ho 1 rfl
      clear hn ho
      go_simp
      exact hK _ _ (keeps_refl _) rfl
    · intro a w1 vs hk ho hn K hK
      obtain ⟨e56, g56⟩ : a.tmps[56]? = some (vs 14) ∧ vs 14 = .slice (some ⟨N3, 0, none⟩) 2 2 := hn 14 (by decide)
      rw [g56] at e56
      clear g56
      clear hn ho
      go_simp
      exact hK _ _ (keeps_refl _) rfl
    · intro a w1 vs hk ho hn K hK
      obtain ⟨e57, g57⟩ : a.tmps[57]? = some (vs 15) ∧ vs 15 = .pointer (some ⟨N3, 0, none⟩) := hn 15 (by decide)
      rw [g57] at e57
      clear g57
      clear hn ho
      have c := keeps_cell hk F0.out
      go_simp
      exact hK _ _ (keeps_refl _) rfl
    · intro a w1 vs hk ho hn K hK
      have e1 : a.tmps[1]? = some (.slice (some ⟨N3, 0, none⟩) 2 2) := ho 1 rfl
      clear hn ho
      go_simp
      exact hK _ _ (keeps_refl _) rfl
    · intro a w1 vs hk ho hn K hK
      obtain ⟨e59, g59⟩ : a.tmps[59]? = some (vs 17) ∧ vs 17 = .slice (some ⟨N3, 0, none⟩) 2 2 := hn 17 (by decide)
      rw [g59] at e59
      clear g59
      clear hn ho
      go_simp
      exact hK _ _ (keeps_refl _) rfl
    · intro a w1 vs hk ho hn K hK
      obtain ⟨e60, g60⟩ : a.tmps[60]? = some (vs 18) ∧ vs 18 = .pointer (some ⟨N3, 1, none⟩) := hn 18 (by decide)
      rw [g60] at e60
      clear g60
      clear hn ho
      have c := keeps_cell hk F1.out
      go_simp
      exact hK _ _ (keeps_refl _) rfl
    · intro a w1 vs hk ho hn K hK
      obtain ⟨e58, g58⟩ : a.tmps[58]? = some (vs 16) ∧ vs 16 = .string (manyB 2048 97) := hn 16 (by decide)
      rw [g58] at e58
      clear g58
      obtain ⟨e61, g61⟩ : a.tmps[61]? = some (vs 19) ∧ vs 19 = .string (manyB 2048 98) := hn 19 (by decide)
      rw [g61] at e61
      clear g61
      clear hn ho
      go_simp
      exact hK _ _ (kal _ _) (textsAt_lit w1 [cB, manyB 2048 97, manyB 2048 98] 3 3 rfl (by omega))
    · intro a w1 vs hk ho hn K hK
      obtain ⟨e62, g62⟩ : a.tmps[62]? = some (vs 20) ∧ TextsAt w1.heap (vs 20) [cB, manyB 2048 97, manyB 2048 98] := hn 20 (by decide)
      clear hn ho
      go_simp
      refine Calls.mono (pmay_e _ _ _ g62 _ may_full2) ?_
      rintro e w' ⟨rfl, hk2⟩
      go_simp
      exact hK _ _ hk2 rfl
    · intro a w1 vs hk ho hn K hK
      obtain ⟨e55, g55⟩ : a.tmps[55]? = some (vs 13) ∧ vs 13 = .bool false := hn 13 (by decide)
      rw [g55] at e55
      clear g55
      obtain ⟨e63, g63⟩ : a.tmps[63]? = some (vs 21) ∧ vs 21 = .bool false := hn 21 (by decide)
      rw [g63] at e63
      clear g63
      clear hn ho
      go_simp
      exact hK _ _ (keeps_refl _) rfl
    · intro a w1 vs hk ho hn K hK
      obtain ⟨e64, g64⟩ : a.tmps[64]? = some (vs 22) ∧ vs 22 = .bool false := hn 22 (by decide)
      rw [g64] at e64
      clear g64
      clear hn ho
      go_simp
      exact hK _ _ (keeps_refl _) rfl
    · intro a w1 vs hk ho hn K hK
      have e2 : a.tmps[2]? = some (.slice (some ⟨N4, 0, none⟩) 1 1) := ho 2 rfl
      clear hn ho
      go_simp
      exact hK _ _ (keeps_refl _) rfl
    · intro a w1 vs hk ho hn K hK
      obtain ⟨e66, g66⟩ : a.tmps[66]? = some (vs 24) ∧ vs 24 = .slice (some ⟨N4, 0, none⟩) 1 1 := hn 24 (by decide)
      rw [g66] at e66
      clear g66
      clear hn ho
      go_simp
      refine Calls.mono (pmay_e _ oneP _ (SeqAt.keeps HO.out hk) _ may_one) ?_
      rintro e w' ⟨rfl, hk2⟩
      go_simp
      exact hK _ _ hk2 rfl
    · intro a w1 vs hk ho hn K hK
      obtain ⟨e67, g67⟩ : a.tmps[67]? = some (vs 25) ∧ vs 25 = .bool true := hn 25 (by decide)
      rw [g67] at e67
      clear g67
      clear hn ho
      go_simp
      exact hK _ _ (keeps_refl _) rfl
    · intro a w1 vs hk ho hn K hK
      obtain ⟨e65, g65⟩ : a.tmps[65]? = some (vs 23) ∧ vs 23 = .bool false := hn 23 (by decide)
      rw [g65] at e65
      clear g65
      obtain ⟨e68, g68⟩ : a.tmps[68]? = some (vs 26) ∧ vs 26 = .bool false := hn 26 (by decide)
      rw [g68] at e68
      clear g68
      clear hn ho
      go_simp
      exact hK _ _ (keeps_refl _) rfl
    · intro a w1 vs hk ho hn K hK
      obtain ⟨e69, g69⟩ : a.tmps[69]? = some (vs 27) ∧ vs 27 = .bool false := hn 27 (by decide)
      rw [g69] at e69
      clear g69
      clear hn ho
      go_simp
      exact hK _ _ (keeps_refl _) rfl
    · intro a w1 vs hk ho hn K hK
      have e2 : a.tmps[2]? = some (.slice (some ⟨N4, 0, none⟩) 1 1) := ho 2 rfl
      clear hn ho
      go_simp
      exact hK _ _ (keeps_refl _) rfl
    · intro a w1 vs hk ho hn K hK
      obtain ⟨e71, g71⟩ : a.tmps[71]? = some (vs 29) ∧ vs 29 = .slice (some ⟨N4, 0, none⟩) 1 1 := hn 29 (by decide)
      rw [g71] at e71
      clear g71
      clear hn ho
      go_simp
      exact hK _ _ (keeps_refl _) rfl
    · intro a w1 vs hk ho hn K hK
      obtain ⟨e72, g72⟩ : a.tmps[72]? = some (vs 30) ∧ vs 30 = .pointer (some ⟨N4, 0, none⟩) := hn 30 (by decide)
      rw [g72] at e72
      clear g72
      clear hn ho
      have c := keeps_cell hk O0.out
      go_simp
      exact hK _ _ (keeps_refl _) rfl
    · intro a w1 vs hk ho hn K hK
      obtain ⟨e73, g73⟩ : a.tmps[73]? = some (vs 31) ∧ vs 31 = .string (manyB 16384 97) := hn 31 (by decide)
      rw [g73] at e73
      clear g73
      clear hn ho
      go_simp
      exact hK _ _ (keeps_refl _) rfl
    · intro a w1 vs hk ho hn K hK
      obtain ⟨e74, g74⟩ : a.tmps[74]? = some (vs 32) ∧ vs 32 = .string (manyB 16384 97 ++ aB) := hn 32 (by decide)
      rw [g74] at e74
      clear g74
      clear hn ho
      go_simp
      exact hK _ _ (kal _ _) (textsAt_lit w1 [manyB 16384 97 ++ aB] 1 1 rfl (by omega))
    · intro a w1 vs hk ho hn K hK
      obtain ⟨e75, g75⟩ : a.tmps[75]? = some (vs 33) ∧ TextsAt w1.heap (vs 33) [manyB 16384 97 ++ aB] := hn 33 (by decide)
      clear hn ho
      go_simp
      refine Calls.mono (pmay_e _ _ _ g75 _ may_one1) ?_
      rintro e w' ⟨rfl, hk2⟩
      go_simp
      exact hK _ _ hk2 rfl
    · intro a w1 vs hk ho hn K hK
      obtain ⟨e70, g70⟩ : a.tmps[70]? = some (vs 28) ∧ vs 28 = .bool false := hn 28 (by decide)
      rw [g70] at e70
      clear g70
      obtain ⟨e76, g76⟩ : a.tmps[76]? = some (vs 34) ∧ vs 34 = .bool false := hn 34 (by decide)
      rw [g76] at e76
      clear g76
      clear hn ho
      go_simp
      exact hK _ _ (keeps_refl _) rfl
    · intro a w1 vs hk ho hn K hK
      obtain ⟨e77, g77⟩ : a.tmps[77]? = some (vs 35) ∧ vs 35 = .bool false := hn 35 (by decide)
      rw [g77] at e77
      clear g77
      clear hn ho
      go_simp
      exact hK _ _ (keeps_refl _) rfl
    · intro a w1 vs hk ho hn K hK
      have e2 : a.tmps[2]? = some (.slice (some ⟨N4, 0, none⟩) 1 1) := ho 2 rfl
      clear hn ho
      go_simp
      exact hK _ _ (keeps_refl _) rfl
    · intro a w1 vs hk ho hn K hK
      obtain ⟨e79, g79⟩ : a.tmps[79]? = some (vs 37) ∧ vs 37 = .slice (some ⟨N4, 0, none⟩) 1 1 := hn 37 (by decide)
      rw [g79] at e79
      clear g79
      clear hn ho
      go_simp
      exact hK _ _ (keeps_refl _) rfl
    · intro a w1 vs hk ho hn K hK
      obtain ⟨e80, g80⟩ : a.tmps[80]? = some (vs 38) ∧ vs 38 = .pointer (some ⟨N4, 0, none⟩) := hn 38 (by decide)
      rw [g80] at e80
      clear g80
      clear hn ho
      have c := keeps_cell hk O0.out
      go_simp
      exact hK _ _ (keeps_refl _) rfl
    · intro a w1 vs hk ho hn K hK
      obtain ⟨e81, g81⟩ : a.tmps[81]? = some (vs 39) ∧ vs 39 = .string (manyB 16384 97) := hn 39 (by decide)
      rw [g81] at e81
      clear g81
      clear hn ho
      go_simp
      exact hK _ _ (kal _ _) (textsAt_lit w1 [manyB 16384 97, bB] 2 2 rfl (by omega))
    · intro a w1 vs hk ho hn K hK
      obtain ⟨e82, g82⟩ : a.tmps[82]? = some (vs 40) ∧ TextsAt w1.heap (vs 40) [manyB 16384 97, bB] := hn 40 (by decide)
      clear hn ho
      go_simp
      refine Calls.mono (pmay_e _ _ _ g82 _ may_one2) ?_
      rintro e w' ⟨rfl, hk2⟩
      go_simp
      exact hK _ _ hk2 rfl
    · intro a w1 vs hk ho hn K hK
      obtain ⟨e78, g78⟩ : a.tmps[78]? = some (vs 36) ∧ vs 36 = .bool false := hn 36 (by decide)
      rw [g78] at e78
      clear g78
      obtain ⟨e83, g83⟩ : a.tmps[83]? = some (vs 41) ∧ vs 41 = .bool false := hn 41 (by decide)
      rw [g83] at e83
      clear g83
      clear hn ho
      go_simp
      exact hK _ _ (keeps_refl _) rfl
    · intro a w1 vs hk ho hn K hK
      obtain ⟨e84, g84⟩ : a.tmps[84]? = some (vs 42) ∧ vs 42 = .bool false := hn 42 (by decide)
      rw [g84] at e84
      clear g84
      clear hn ho
      go_simp
      exact hK _ _ (keeps_refl _) rfl
    · intro a w1 vs hk ho hn K hK
      have e2 : a.tmps[2]? = some (.slice (some ⟨N4, 0, none⟩) 1 1) := ho 2 rfl
      clear hn ho
      go_simp
      exact hK _ _ (keeps_refl _) rfl
    · intro a w1 vs hk ho hn K hK
      obtain ⟨e86, g86⟩ : a.tmps[86]? = some (vs 44) ∧ vs 44 = .slice (some ⟨N4, 0, none⟩) 1 1 := hn 44 (by decide)
      rw [g86] at e86
      clear g86
      clear hn ho
      go_simp
      exact hK _ _ (keeps_refl _) rfl
    · intro a w1 vs hk ho hn K hK
      obtain ⟨e87, g87⟩ : a.tmps[87]? = some (vs 45) ∧ vs 45 = .pointer (some ⟨N4, 0, none⟩) := hn 45 (by decide)
      rw [g87] at e87
      clear g87
      clear hn ho
      have c := keeps_cell hk O0.out
      go_simp
      exact hK _ _ (keeps_refl _) rfl
    · intro a w1 vs hk ho hn K hK
      obtain ⟨e88, g88⟩ : a.tmps[88]? = some (vs 46) ∧ vs 46 = .string (manyB 16384 97) := hn 46 (by decide)
      rw [g88] at e88
      clear g88
      clear hn ho
      go_simp
      exact hK _ _ (kal _ _) (textsAt_lit w1 [bB, manyB 16384 97] 2 2 rfl (by omega))
    · intro a w1 vs hk ho hn K hK
      obtain ⟨e89, g89⟩ : a.tmps[89]? = some (vs 47) ∧ TextsAt w1.heap (vs 47) [bB, manyB 16384 97] := hn 47 (by decide)
      clear hn ho
      go_simp
      refine Calls.mono (pmay_e _ _ _ g89 _ may_one3) ?_
      rintro e w' ⟨rfl, hk2⟩
      go_simp
      exact hK _ _ hk2 rfl
    · intro a w1 vs hk ho hn K hK
      obtain ⟨e85, g85⟩ : a.tmps[85]? = some (vs 43) ∧ vs 43 = .bool false := hn 43 (by decide)
      rw [g85] at e85
      clear g85
      obtain ⟨e90, g90⟩ : a.tmps[90]? = some (vs 48) ∧ vs 48 = .bool false := hn 48 (by decide)
      rw [g90] at e90
      clear g90
      clear hn ho
      go_simp
      exact hK _ _ (keeps_refl _) rfl
    · intro a w1 vs hk ho hn K hK
      obtain ⟨e91, g91⟩ : a.tmps[91]? = some (vs 49) ∧ vs 49 = .bool false := hn 49 (by decide)
      rw [g91] at e91
      clear g91
      clear hn ho
      go_simp
      exact hK _ _ (keeps_refl _) rfl
    · intro a w1 vs hk ho hn K hK
      have e5 : a.tmps[5]? = some (.int .i64 0) := ho 5 rfl
      clear hn ho
      go_simp
      exact hK _ _ (keeps_refl _) rfl
    · intro a w1 vs hk ho hn K hK
      obtain ⟨e93, g93⟩ : a.tmps[93]? = some (vs 51) ∧ vs 51 = .int .i64 0 := hn 51 (by decide)
      rw [g93] at e93
      clear g93
      clear hn ho
      go_simp
      exact hK _ _ (keeps_refl _) rfl
    · intro a w1 vs hk ho hn K hK
      obtain ⟨e92, g92⟩ : a.tmps[92]? = some (vs 50) ∧ vs 50 = .bool false := hn 50 (by decide)
      rw [g92] at e92
      clear g92
      obtain ⟨e94, g94⟩ : a.tmps[94]? = some (vs 52) ∧ vs 52 = .bool false := hn 52 (by decide)
      rw [g94] at e94
      clear g94
      clear hn ho
      go_simp
      exact hK _ _ (keeps_refl _) rfl
    · intro a w1 vs hk ho hn K hK
      obtain ⟨e95, g95⟩ : a.tmps[95]? = some (vs 53) ∧ vs 53 = .bool false := hn 53 (by decide)
      rw [g95] at e95
      clear g95
      clear hn ho
      go_simp
      exact hK _ _ (keeps_refl _) rfl
    · intro a w1 vs hk ho hn K hK
      have e3 : a.tmps[3]? = some (.string (strB (blobP oneP))) := ho 3 rfl
      clear hn ho
      go_simp
      exact hK _ _ (keeps_refl _) rfl
    · intro a w1 vs hk ho hn K hK
      obtain ⟨e97, g97⟩ : a.tmps[97]? = some (vs 55) ∧ vs 55 = .string (strB (blobP oneP)) := hn 55 (by decide)
      rw [g97] at e97
      clear g97
      clear hn ho
      go_simp
      exact hK _ _ (keeps_refl _) rfl
    · intro a w1 vs hk ho hn K hK
      obtain ⟨e98, g98⟩ : a.tmps[98]? = some (vs 56) ∧ vs 56 = .int .i64 16392 := hn 56 (by decide)
      rw [g98] at e98
      clear g98
      clear hn ho
      go_simp
      exact hK _ _ (keeps_refl _) rfl
    · intro a w1 vs hk ho hn K hK
      obtain ⟨e96, g96⟩ : a.tmps[96]? = some (vs 54) ∧ vs 54 = .bool false := hn 54 (by decide)
      rw [g96] at e96
      clear g96
      obtain ⟨e99, g99⟩ : a.tmps[99]? = some (vs 57) ∧ vs 57 = .bool false := hn 57 (by decide)
      rw [g99] at e99
      clear g99
      clear hn ho
      go_simp
      exact hK _ _ (keeps_refl _) rfl
    · intro a w1 vs hk ho hn K hK
      obtain ⟨e100, g100⟩ : a.tmps[100]? = some (vs 58) ∧ vs 58 = .bool false := hn 58 (by decide)
      rw [g100] at e100
      clear g100
      clear hn ho
      go_simp
      exact hK _ _ (keeps_refl _) rfl
    · intro a w1 vs hk ho hn K hK
      have e4 : a.tmps[4]? = some (.slice p5 1 q5) := ho 4 rfl
      clear hn ho
      go_simp
      exact hK _ _ (keeps_refl _) rfl
    · intro a w1 vs hk ho hn K hK
      clear hn ho
      go_simp
      exact hK _ _ (kal _ _) (intsAt_lit w1 [8] 1 1 rfl (by omega))
    · intro a w1 vs hk ho hn K hK
      obtain ⟨e102, g102⟩ : a.tmps[102]? = some (vs 60) ∧ vs 60 = .slice p5 1 q5 := hn 60 (by decide)
      rw [g102] at e102
      clear g102
      obtain ⟨e103, g103⟩ : a.tmps[103]? = some (vs 61) ∧ SeqAt IsInt w1.heap (vs 61) [8] := hn 61 (by decide)
      clear hn ho
      go_simp
      refine Calls.mono (ints_same _ _ [8] _ (SeqAt.keeps HA.out hk) g103) ?_
      rintro e w' ⟨rfl, hk2⟩
      go_simp
      exact hK _ _ hk2 rfl
    · intro a w1 vs hk ho hn K hK
      obtain ⟨e104, g104⟩ : a.tmps[104]? = some (vs 62) ∧ vs 62 = .bool true := hn 62 (by decide)
      rw [g104] at e104
      clear g104
      clear hn ho
      go_simp
      exact hK _ _ (keeps_refl _) rfl
    · intro a w1 vs hk ho hn K hK
      obtain ⟨e101, g101⟩ : a.tmps[101]? = some (vs 59) ∧ vs 59 = .bool false := hn 59 (by decide)
      rw [g101] at e101
      clear g101
      obtain ⟨e105, g105⟩ : a.tmps[105]? = some (vs 63) ∧ vs 63 = .bool false := hn 63 (by decide)
      rw [g105] at e105
      clear g105
      clear hn ho
      go_simp
      exact hK _ _ (keeps_refl _) rfl
    · intro a w1 vs hk ho hn K hK
      obtain ⟨e106, g106⟩ : a.tmps[106]? = some (vs 64) ∧ vs 64 = .bool false := hn 64 (by decide)
      rw [g106] at e106
      clear g106
      clear hn ho
      go_simp
      exact hK _ _ (keeps_refl _) rfl
    · intro a w1 vs hk ho hn K hK
      have e8 : a.tmps[8]? = some (.int .i64 0) := ho 8 rfl
      clear hn ho
      go_simp
      exact hK _ _ (keeps_refl _) rfl
    · intro a w1 vs hk ho hn K hK
      obtain ⟨e108, g108⟩ : a.tmps[108]? = some (vs 66) ∧ vs 66 = .int .i64 0 := hn 66 (by decide)
      rw [g108] at e108
      clear g108
      clear hn ho
      go_simp
      exact hK _ _ (keeps_refl _) rfl
    · intro a w1 vs hk ho hn K hK
      obtain ⟨e107, g107⟩ : a.tmps[107]? = some (vs 65) ∧ vs 65 = .bool false := hn 65 (by decide)
      rw [g107] at e107
      clear g107
      obtain ⟨e109, g109⟩ : a.tmps[109]? = some (vs 67) ∧ vs 67 = .bool false := hn 67 (by decide)
      rw [g109] at e109
      clear g109
      clear hn ho
      go_simp
      exact hK _ _ (keeps_refl _) rfl
    · intro a w1 vs hk ho hn K hK
      obtain ⟨e110, g110⟩ : a.tmps[110]? = some (vs 68) ∧ vs 68 = .bool false := hn 68 (by decide)
      rw [g110] at e110
      clear g110
      clear hn ho
      go_simp
      exact hK _ _ (keeps_refl _) rfl
    · intro a w1 vs hk ho hn K hK
      have e6 : a.tmps[6]? = some (.slice p6 1 q6) := ho 6 rfl
      clear hn ho
      go_simp
      exact hK _ _ (keeps_refl _) rfl
    · intro a w1 vs hk ho hn K hK
      have e2 : a.tmps[2]? = some (.slice (some ⟨N4, 0, none⟩) 1 1) := ho 2 rfl
      clear hn ho
      go_simp
      exact hK _ _ (keeps_refl _) rfl
    · intro a w1 vs hk ho hn K hK
      obtain ⟨e112, g112⟩ : a.tmps[112]? = some (vs 70) ∧ vs 70 = .slice p6 1 q6 := hn 70 (by decide)
      rw [g112] at e112
      clear g112
      obtain ⟨e113, g113⟩ : a.tmps[113]? = some (vs 71) ∧ vs 71 = .slice (some ⟨N4, 0, none⟩) 1 1 := hn 71 (by decide)
      rw [g113] at e113
      clear g113
      clear hn ho
      go_simp
      refine Calls.mono (texts_same _ _ oneP _ (SeqAt.keeps HL.out hk) (SeqAt.keeps HO.out hk)) ?_
      rintro e w' ⟨rfl, hk2⟩
      go_simp
      exact hK _ _ hk2 rfl
    · intro a w1 vs hk ho hn K hK
      obtain ⟨e114, g114⟩ : a.tmps[114]? = some (vs 72) ∧ vs 72 = .bool true := hn 72 (by decide)
      rw [g114] at e114
      clear g114
      clear hn ho
      go_simp
      exact hK _ _ (keeps_refl _) rfl
    · intro a w1 vs hk ho hn K hK
      obtain ⟨e111, g111⟩ : a.tmps[111]? = some (vs 69) ∧ vs 69 = .bool false := hn 69 (by decide)
      rw [g111] at e111
      clear g111
      obtain ⟨e115, g115⟩ : a.tmps[115]? = some (vs 73) ∧ vs 73 = .bool false := hn 73 (by decide)
      rw [g115] at e115
      clear g115
      clear hn ho
      go_simp
      exact hK _ _ (keeps_refl _) rfl
    · intro a w1 vs hk ho hn K hK
      obtain ⟨e116, g116⟩ : a.tmps[116]? = some (vs 74) ∧ vs 74 = .bool false := hn 74 (by decide)
      rw [g116] at e116
      clear g116
      clear hn ho
      go_simp
      exact hK _ _ (keeps_refl _) rfl
    · intro a w1 vs hk ho hn K hK
      have e7 : a.tmps[7]? = some (.slice p7 1 q7) := ho 7 rfl
      clear hn ho
      go_simp
      exact hK _ _ (keeps_refl _) rfl
    · intro a w1 vs hk ho hn K hK
      have e4 : a.tmps[4]? = some (.slice p5 1 q5) := ho 4 rfl
      clear hn ho
      go_simp
      exact hK _ _ (keeps_refl _) rfl
    · intro a w1 vs hk ho hn K hK
      obtain ⟨e118, g118⟩ : a.tmps[118]? = some (vs 76) ∧ vs 76 = .slice p7 1 q7 := hn 76 (by decide)
      rw [g118] at e118
      clear g118
      obtain ⟨e119, g119⟩ : a.tmps[119]? = some (vs 77) ∧ vs 77 = .slice p5 1 q5 := hn 77 (by decide)
      rw [g119] at e119
      clear g119
      clear hn ho
      go_simp
      refine Calls.mono (ints_same _ _ [8] _ (SeqAt.keeps HB.out hk) (SeqAt.keeps HA.out hk)) ?_
      rintro e w' ⟨rfl, hk2⟩
      go_simp
      exact hK _ _ hk2 rfl
    · intro a w1 vs hk ho hn K hK
      obtain ⟨e120, g120⟩ : a.tmps[120]? = some (vs 78) ∧ vs 78 = .bool true := hn 78 (by decide)
      rw [g120] at e120
      clear g120
      clear hn ho
      go_simp
      exact hK _ _ (keeps_refl _) rfl
    · intro a w1 vs hk ho hn K hK
      obtain ⟨e117, g117⟩ : a.tmps[117]? = some (vs 75) ∧ vs 75 = .bool false := hn 75 (by decide)
      rw [g117] at e117
      clear g117
      obtain ⟨e121, g121⟩ : a.tmps[121]? = some (vs 79) ∧ vs 79 = .bool false := hn 79 (by decide)
      rw [g121] at e121
      clear g121
      clear hn ho
      go_simp
      exact hK _ _ (keeps_refl _) rfl
  · intro vs w7 hk hG
    have e80 : vs 80 = .bool false := hG 80 (by decide)
    have HK := Lib.hid (HK.out.trans hk)
    simp only [setAll, Nat.zero_add, Nat.reduceAdd, List.setIfInBounds_toArray, List.set_cons_zero, List.set_cons_succ, e80]
    clear hG e80 hk
    generalize vs 0 = x0
    generalize vs 1 = x1
    generalize vs 2 = x2
    generalize vs 3 = x3
    generalize vs 4 = x4
    generalize vs 5 = x5
    generalize vs 6 = x6
    generalize vs 7 = x7
    generalize vs 8 = x8
    generalize vs 9 = x9
    generalize vs 10 = x10
    generalize vs 11 = x11
    generalize vs 12 = x12
    generalize vs 13 = x13
    generalize vs 14 = x14
    generalize vs 15 = x15
    generalize vs 16 = x16
    generalize vs 17 = x17
    generalize vs 18 = x18
    generalize vs 19 = x19
    generalize vs 20 = x20
    generalize vs 21 = x21
    generalize vs 22 = x22
    generalize vs 23 = x23
    generalize vs 24 = x24
    generalize vs 25 = x25
    generalize vs 26 = x26
    generalize vs 27 = x27
    generalize vs 28 = x28
    generalize vs 29 = x29
    generalize vs 30 = x30
    generalize vs 31 = x31
    generalize vs 32 = x32
    generalize vs 33 = x33
    generalize vs 34 = x34
    generalize vs 35 = x35
    generalize vs 36 = x36
    generalize vs 37 = x37
    generalize vs 38 = x38
    generalize vs 39 = x39
    generalize vs 40 = x40
    generalize vs 41 = x41
    generalize vs 42 = x42
    generalize vs 43 = x43
    generalize vs 44 = x44
    generalize vs 45 = x45
    generalize vs 46 = x46
    generalize vs 47 = x47
    generalize vs 48 = x48
    generalize vs 49 = x49
    generalize vs 50 = x50
    generalize vs 51 = x51
    generalize vs 52 = x52
    generalize vs 53 = x53
    generalize vs 54 = x54
    generalize vs 55 = x55
    generalize vs 56 = x56
    generalize vs 57 = x57
    generalize vs 58 = x58
    generalize vs 59 = x59
    generalize vs 60 = x60
    generalize vs 61 = x61
    generalize vs 62 = x62
    generalize vs 63 = x63
    generalize vs 64 = x64
    generalize vs 65 = x65
    generalize vs 66 = x66
    generalize vs 67 = x67
    generalize vs 68 = x68
    generalize vs 69 = x69
    generalize vs 70 = x70
    generalize vs 71 = x71
    generalize vs 72 = x72
    generalize vs 73 = x73
    generalize vs 74 = x74
    generalize vs 75 = x75
    generalize vs 76 = x76
    generalize vs 77 = x77
    generalize vs 78 = x78
    generalize vs 79 = x79
    have HS : Hid (∀ s ∈ badS, s.size ≤ 60000) := by show ∀ s ∈ badS, s.size ≤ 60000; decide
    have HBD := Lib.hid (textsAt_lit w7 badS 12 12 rfl (by omega))
    have HK := Lib.hid (HK.out.trans (kal w7 (.cells ⟨badS.map (Value.string ·)⟩ 9)))
    clear F0 F1 O0 HF HO HA HL HB
    go_wp2_with fail
    go_loopw [125] (fun i wr => ∃ k : Nat, k ≤ 12 ∧ i = .int .i64 k ∧ Hid (Keeps (w7.alloc (.cells ⟨badS.map (Value.string ·)⟩ 9)) wr)) (fun i _ => 12 - (intOf i).toNat)
    case atStart => exact ⟨0, by omega, rfl, keeps_refl _⟩
    case round =>
      obtain ⟨k, hk, rfl, hK⟩ := hrel
      by_cases hlt : k < 12
      · have i1 : (k : Int) < 12 := by omega
        have i0 : (0 : Int) ≤ (k : Int) := by omega
        obtain ⟨b, off, c, u, e5, d1, r1⟩ := seq_cell (SeqAt.keeps HBD.out hK.out) (show k < badS.length from hlt)
        injection e5 with e6 e7 e8
        injection e6 with e6
        injection e6 with e9 e10 e11
        subst e9 e10
        unfold IsText at r1
        subst r1
        rw [Nat.zero_add] at d1
        have HR := Lib.hid (bad_read _ (List.getElem_mem (show k < badS.length from hlt)))
        have HZ := Lib.hid (HS.out _ (List.getElem_mem (show k < badS.length from hlt)))
        generalize badS[k] = s at *
        clear e7 e8 e11
        go_wp2_with fail
        refine Calls.mono (readP_e (pread_any s _ HZ.out) HR.out) ?_
        rintro e w9 ⟨v9, u9, rfl, ha, hb, hk9⟩
        obtain ⟨pa, qa, rfl⟩ := seq_shape (SeqIn.at_ ha)
        obtain ⟨pb, qb, rfl⟩ := seq_shape (SeqIn.at_ hb)
        have HK9 := Lib.hid (hK.out.trans hk9)
        clear ha hb hk9
        go_wp2_with fail
        refine ⟨?_, by simp [intOf]; omega⟩
        first | exact ⟨k + 1, by omega, by go_num, HK9⟩ | ((repeat apply Exists.intro); exact ⟨⟨k + 1, by omega, by go_num, HK9⟩, rfl⟩)
      · obtain rfl : k = 12 := by omega
        have HK := Lib.hid (HK.out.trans hK.out)
        go_wp2_with fail
        refine Calls.mono (readP_e (pread_any ⟨#[112, 97, 107, 49, 0, 2, 0, 1, 0, 1, 98, 97]⟩ _ (by decide)) read_last) ?_
        rintro e w9 ⟨v9, u9, rfl, ha, hb, hk9⟩
        have HL9 := Lib.hid (SeqIn.at_ ha)
        have HK := Lib.hid (HK.out.trans hk9)
        clear ha hb hk9
        go_wp2_with fail
        refine Calls.mono (texts_same _ _ [bB, aB] _ (HL9.out.al _) (textsAt_lit w9 [bB, aB] 2 2 rfl (by omega))) ?_
        rintro e w10 ⟨rfl, hk⟩
        have HK := Lib.hid (HK.out.trans ((kal _ _).trans hk))
        clear hk
        go_wp2_with fail
        go_ret
        exact ⟨rfl, HK.out⟩
end Go.Proofs.Yteandjophamipaa
