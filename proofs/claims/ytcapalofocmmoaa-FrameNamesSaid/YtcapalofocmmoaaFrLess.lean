/- The walks of frame.Less and of the reference's Less. -/
import Derived.Test.YtcapalofocmmoaaFrNum
import Derived.Test.YtcapalofocmmoaaStage
namespace Go.Proofs.Ytcapalofocmmoaa
open Go.RowKit
def lessF (a1 a2 b1 b2 : Int) : Bool := decide (a1 < b1 ∨ (a1 = b1 ∧ a2 < b2))
/-- The first that is not 0. -/
def orI : List Int → Int
  | [] => 0
  | x :: l => if x ≠ 0 then x else orI l
theorem or_less (a1 a2 b1 b2 : Int) : decide (orI [Lib.compareInt a1 b1, Lib.compareInt a2 b2] < 0) = lessF a1 a2 b1 b2 := by
  unfold lessF orI orI orI Lib.compareInt
  rw [decide_eq_decide]
  constructor
  · intro h
    split at h <;> split at h <;> (try split at h) <;> (try split at h) <;> omega
  · intro h
    split <;> split <;> (try split) <;> (try split) <;> omega
theorem orI_drop {l : List Int} {k : Nat} (h : ∀ j, j < k → l.getD j 0 = 0) : orI l = orI (l.drop k) := by
  induction k generalizing l with
  | zero => rfl
  | succ k ih =>
    cases l with
    | nil => rfl
    | cons x l =>
      have h0 : x = 0 := h 0 (by omega)
      subst h0
      show (if (0 : Int) ≠ 0 then (0 : Int) else orI l) = _
      rw [if_neg (by simp)]
      exact ih fun j hj => h (j + 1) (by omega)
set_option maxRecDepth 100000 in
set_option maxHeartbeats 4000000 in
theorem cmpor_any (v : Value) (l : List Int) (w : World) (h : SeqAt IsInt w.heap v l) : Calls Try.prog 54 #[v] w fun e w' => e = .returned (.int .i64 (orI l)) ∧ w = w' := by
  obtain ⟨p, q, rfl⟩ := seq_shape h
  have hl63 : l.length ≤ 9223372036854775807 := let ⟨_, _, _, x, _⟩ := h; x
  have H := Lib.hid h
  clear h
  go_enter Try.func54, Try.ntmps54
  go_wp2_with fail
  go_loopw [8] (fun i wr => ∃ k : Nat, k ≤ l.length ∧ i = .int .i64 k ∧ Hid (∀ j, j < k → l.getD j 0 = 0) ∧ w = wr) (fun i _ => l.length - (intOf i).toNat)
  case atStart => exact ⟨0, by omega, rfl, fun j hj => absurd hj (Nat.not_lt_zero _), rfl⟩
  case round =>
    obtain ⟨k, hk, rfl, hN, rfl⟩ := hrel
    by_cases hlt : k < l.length
    · have i1 : (k : Int) < (l.length : Int) := by omega
      have i0 : (0 : Int) ≤ (k : Int) := by omega
      obtain ⟨b, off, cp, u, e5, d1, r1⟩ := seq_cell H.out hlt
      injection e5 with e6 e7 e8
      subst e6 e8
      unfold IsInt at r1
      subst r1
      have HX : Hid (l.getD k 0 = l[k]) := by show _ = _; rw [List.getD_eq_getElem?_getD, List.getElem?_eq_getElem hlt]; rfl
      have HD : Hid (l[k] ≠ 0 → orI l = l[k]) := fun h => by
        rw [orI_drop hN.out, List.drop_eq_getElem_cons hlt]
        show (if l[k] ≠ 0 then l[k] else _) = _
        rw [if_pos h]
      generalize l[k] = x at *
      clear e7
      by_cases hx : x = 0
      · have g1 : (x != 0) = false := by rw [hx]; rfl
        have g2 : decide (x = 0) = true := decide_eq_true hx
        have HN2 : Hid (∀ j, j < k + 1 → l.getD j 0 = 0) := fun j hj => by
          rcases Nat.lt_or_ge j k with h1 | h1
          · exact hN.out j h1
          · obtain rfl : j = k := by omega
            rw [HX.out]; exact hx
        go_wp2_with fail
        exact ⟨⟨k + 1, by omega, by go_num, HN2, by first | rfl | trivial⟩, by simp [intOf]; omega⟩
      · have g1 : (x != 0) = true := by rw [bne_iff_ne]; exact hx
        have g2 : decide (x = 0) = false := decide_eq_false hx
        have HF := Lib.hid (HD.out hx)
        go_wp2_with fail
        go_ret
        exact ⟨by rw [HF.out]; rfl, rfl⟩
    · obtain rfl : k = l.length := by omega
      have HF : Hid (orI l = 0) := by show _ = _; rw [orI_drop hN.out, List.drop_length]; rfl
      go_wp2_with fail
      go_ret
      exact ⟨by rw [HF.out]; rfl, rfl⟩
theorem cmp_any (x y : Int) (w : World) : Calls Try.prog 55 #[.int .i64 x, .int .i64 y] w fun e w' => e = .returned (.int .i64 (Lib.compareInt x y)) ∧ w = w' :=
  (Sh.cmp_Compare_int x y w).mono fun _ _ ⟨h1, h2⟩ => ⟨h1, h2.symm⟩
def less1 (a1 a2 b1 b2 : Int) (N : Nat) : Nat → Value → World → Prop
  | 10, v, w => SeqAt IsInt w.heap v [Lib.compareInt a1 b1, Lib.compareInt a2 b2]
  | i, v, _ => v = ([.pointer (some ⟨N, 0, none⟩), .int .i64 a1, .pointer (some ⟨N + 1, 0, none⟩), .int .i64 b1, .int .i64 (Lib.compareInt a1 b1), .pointer (some ⟨N, 1, none⟩), .int .i64 a2, .pointer (some ⟨N + 1, 1, none⟩), .int .i64 b2, .int .i64 (Lib.compareInt a2 b2), undef, .int .i64 (orI [Lib.compareInt a1 b1, Lib.compareInt a2 b2]), .bool (decide (orI [Lib.compareInt a1 b1, Lib.compareInt a2 b2] < 0)), .bool (decide (orI [Lib.compareInt a1 b1, Lib.compareInt a2 b2] < 0))] : List Value).getD i undef
theorem less1_keeps {a1 a2 b1 b2 : Int} {N : Nat} (i : Nat) (v : Value) (w w' : World) (c : Keeps w w') (h : less1 a1 a2 b1 b2 N i v w) : less1 a1 a2 b1 b2 N i v w' := by
  match i, h with
  | 0, h => exact h
  | 1, h => exact h
  | 2, h => exact h
  | 3, h => exact h
  | 4, h => exact h
  | 5, h => exact h
  | 6, h => exact h
  | 7, h => exact h
  | 8, h => exact h
  | 9, h => exact h
  | 10, h => exact SeqAt.keeps h c
  | 11, h => exact h
  | 12, h => exact h
  | 13, h => exact h
  | _ + 14, h => exact h
set_option maxRecDepth 100000 in
set_option maxHeartbeats 4000000 in
theorem frless_any (a1 a2 b1 b2 : Int) (w : World) : Calls Try.prog 33 #[stV a1 a2, stV b1 b2] w fun e w' => e = .returned (.bool (lessF a1 a2 b1 b2)) ∧ Keeps w w' := by
  unfold stV
  have HE := Lib.hid (or_less a1 a2 b1 b2)
  go_enter Try.func33, Try.ntmps33
  obtain ⟨w1, hw1⟩ : ∃ w1, w1 = (w.alloc (.cells #[.int .i64 a1, .int .i64 a2] 43)).alloc (.cells #[.int .i64 b1, .int .i64 b2] 43) := ⟨_, rfl⟩
  have HK : Hid (Keeps w w1) := by rw [hw1]; exact (kal _ _).trans (kal _ _)
  have kw := kal (w.alloc (.cells #[.int .i64 a1, .int .i64 a2] 43)) (.cells #[.int .i64 b1, .int .i64 b2] 43)
  have A1 : Hid (w1.cell? ⟨w.heap.size, 0, none⟩ = some (.int .i64 a1)) := by rw [hw1]; exact keeps_cell kw (World.cell?_alloc_new _ _ _ _)
  have A2 : Hid (w1.cell? ⟨w.heap.size, 1, none⟩ = some (.int .i64 a2)) := by rw [hw1]; exact keeps_cell kw (World.cell?_alloc_new _ _ _ _)
  have B1 : Hid (w1.cell? ⟨w.heap.size + 1, 0, none⟩ = some (.int .i64 b1)) := by
    rw [hw1]
    have := World.cell?_alloc_new (w.alloc (.cells #[.int .i64 a1, .int .i64 a2] 43)) #[.int .i64 b1, .int .i64 b2] 43 0
    rw [show (w.alloc (.cells #[.int .i64 a1, .int .i64 a2] 43)).heap.size = w.heap.size + 1 from by simp] at this
    exact this
  have B2 : Hid (w1.cell? ⟨w.heap.size + 1, 1, none⟩ = some (.int .i64 b2)) := by
    rw [hw1]
    have := World.cell?_alloc_new (w.alloc (.cells #[.int .i64 a1, .int .i64 a2] 43)) #[.int .i64 b1, .int .i64 b2] 43 1
    rw [show (w.alloc (.cells #[.int .i64 a1, .int .i64 a2] 43)).heap.size = w.heap.size + 1 from by simp] at this
    exact this
  clear kw
  go_wp2_with fail
  rw [← hw1]
  clear hw1
  generalize w.heap.size = N at *
  refine wp_region_stage [5, 6, 7, 8, 9, 10, 11, 12, 13, 14, 15, 16, 17, 4] [[], [0], [], [2], [1, 3], [], [5], [], [7], [6, 8], [4, 9], [10], [11], [12]] [] [0, 0, 0, 0, 0, 0, 0, 0, 0, 0, 0, 0, 0, 0] [] (less1 a1 a2 b1 b2 N) (fun w w' => Keeps w w') (fun _ _ w' => Keeps w1 w') (by kernel_rfl) (by kernel_rfl) (by kernel_rfl) (by kernel_rfl) (by kernel_rfl) (by kernel_rfl) (by kernel_rfl) ?_ ?_ ?_ ?_ ?_ ?_ ?_
  · exact fun i v w w' c h => less1_keeps i v w w' c h
  · exact fun w => keeps_refl w
  · exact fun i s vs w h => by cases h
  · refine ⟨?_, ?_, ?_, ?_, ?_, ?_, ?_, ?_, ?_, ?_, ?_, ?_, ?_, ?_, trivial⟩
    · exact fun g b h => by (cases h)
    · exact fun g b h => by (cases h)
    · exact fun g b h => by (cases h)
    · exact fun g b h => by (cases h)
    · exact fun g b h => by (cases h)
    · exact fun g b h => by (cases h)
    · exact fun g b h => by (cases h)
    · exact fun g b h => by (cases h)
    · exact fun g b h => by (cases h)
    · exact fun g b h => by (cases h)
    · exact fun g b h => by (cases h)
    · exact fun g b h => by (cases h)
    · exact fun g b h => by (cases h)
    · exact fun g b h => by (cases h)
  · exact fun _ _ => keeps_refl w1
  · refine ⟨?_, ?_, ?_, ?_, ?_, ?_, ?_, ?_, ?_, ?_, ?_, ?_, ?_, ?_, trivial⟩
    · intro _ a w1 vs hI ho hn hu K hK
      have e2 : a.tmps[2]? = some (.pointer (some ⟨N, 0, none⟩)) := ho 2 rfl
      clear hn ho hu
      go_simp
      exact hK _ _ (keeps_refl _) hI rfl
    · intro _ a w1 vs hI ho hn hu K hK
      obtain ⟨e5, g5⟩ : a.tmps[5]? = some (vs 0) ∧ vs 0 = .pointer (some ⟨N, 0, none⟩) := hn 0 (by decide)
      rw [g5] at e5
      clear g5
      clear hn ho hu
      have c := keeps_cell hI A1.out
      go_simp
      exact hK _ _ (keeps_refl _) hI rfl
    · intro _ a w1 vs hI ho hn hu K hK
      have e3 : a.tmps[3]? = some (.pointer (some ⟨N + 1, 0, none⟩)) := ho 3 rfl
      clear hn ho hu
      go_simp
      exact hK _ _ (keeps_refl _) hI rfl
    · intro _ a w1 vs hI ho hn hu K hK
      obtain ⟨e7, g7⟩ : a.tmps[7]? = some (vs 2) ∧ vs 2 = .pointer (some ⟨N + 1, 0, none⟩) := hn 2 (by decide)
      rw [g7] at e7
      clear g7
      clear hn ho hu
      have c := keeps_cell hI B1.out
      go_simp
      exact hK _ _ (keeps_refl _) hI rfl
    · intro _ a w1 vs hI ho hn hu K hK
      obtain ⟨e6, g6⟩ : a.tmps[6]? = some (vs 1) ∧ vs 1 = .int .i64 a1 := hn 1 (by decide)
      rw [g6] at e6
      clear g6
      obtain ⟨e8, g8⟩ : a.tmps[8]? = some (vs 3) ∧ vs 3 = .int .i64 b1 := hn 3 (by decide)
      rw [g8] at e8
      clear g8
      clear hn ho hu
      go_simp
      refine Calls.mono (cmp_any a1 b1 _) ?_
      rintro e w' ⟨rfl, rfl⟩
      go_simp
      exact hK _ _ (keeps_refl _) hI rfl
    · intro _ a w1 vs hI ho hn hu K hK
      have e2 : a.tmps[2]? = some (.pointer (some ⟨N, 0, none⟩)) := ho 2 rfl
      clear hn ho hu
      go_simp
      exact hK _ _ (keeps_refl _) hI rfl
    · intro _ a w1 vs hI ho hn hu K hK
      obtain ⟨e10, g10⟩ : a.tmps[10]? = some (vs 5) ∧ vs 5 = .pointer (some ⟨N, 1, none⟩) := hn 5 (by decide)
      rw [g10] at e10
      clear g10
      clear hn ho hu
      have c := keeps_cell hI A2.out
      go_simp
      exact hK _ _ (keeps_refl _) hI rfl
    · intro _ a w1 vs hI ho hn hu K hK
      have e3 : a.tmps[3]? = some (.pointer (some ⟨N + 1, 0, none⟩)) := ho 3 rfl
      clear hn ho hu
      go_simp
      exact hK _ _ (keeps_refl _) hI rfl
    · intro _ a w1 vs hI ho hn hu K hK
      obtain ⟨e12, g12⟩ : a.tmps[12]? = some (vs 7) ∧ vs 7 = .pointer (some ⟨N + 1, 1, none⟩) := hn 7 (by decide)
      rw [g12] at e12
      clear g12
      clear hn ho hu
      have c := keeps_cell hI B2.out
      go_simp
      exact hK _ _ (keeps_refl _) hI rfl
    · intro _ a w1 vs hI ho hn hu K hK
      obtain ⟨e11, g11⟩ : a.tmps[11]? = some (vs 6) ∧ vs 6 = .int .i64 a2 := hn 6 (by decide)
      rw [g11] at e11
      clear g11
      obtain ⟨e13, g13⟩ : a.tmps[13]? = some (vs 8) ∧ vs 8 = .int .i64 b2 := hn 8 (by decide)
      rw [g13] at e13
      clear g13
      clear hn ho hu
      go_simp
      refine Calls.mono (cmp_any a2 b2 _) ?_
      rintro e w' ⟨rfl, rfl⟩
      go_simp
      exact hK _ _ (keeps_refl _) hI rfl
    · intro _ a w1 vs hI ho hn hu K hK
      obtain ⟨e9, g9⟩ : a.tmps[9]? = some (vs 4) ∧ vs 4 = .int .i64 (Lib.compareInt a1 b1) := hn 4 (by decide)
      rw [g9] at e9
      clear g9
      obtain ⟨e14, g14⟩ : a.tmps[14]? = some (vs 9) ∧ vs 9 = .int .i64 (Lib.compareInt a2 b2) := hn 9 (by decide)
      rw [g14] at e14
      clear g14
      clear hn ho hu
      go_simp
      exact hK _ _ (kal _ _) (Keeps.trans hI (kal _ _)) (intsAt_lit w1 [Lib.compareInt a1 b1, Lib.compareInt a2 b2] 2 2 rfl (by omega))
    · intro _ a w1 vs hI ho hn hu K hK
      obtain ⟨e15, g15⟩ : a.tmps[15]? = some (vs 10) ∧ SeqAt IsInt w1.heap (vs 10) [Lib.compareInt a1 b1, Lib.compareInt a2 b2] := hn 10 (by decide)
      clear hn ho hu
      go_simp
      refine Calls.mono (cmpor_any _ _ _ g15) ?_
      rintro e w' ⟨rfl, rfl⟩
      go_simp
      exact hK _ _ (keeps_refl _) hI rfl
    · intro _ a w1 vs hI ho hn hu K hK
      obtain ⟨e16, g16⟩ : a.tmps[16]? = some (vs 11) ∧ vs 11 = .int .i64 (orI [Lib.compareInt a1 b1, Lib.compareInt a2 b2]) := hn 11 (by decide)
      rw [g16] at e16
      clear g16
      clear hn ho hu
      go_simp
      exact hK _ _ (keeps_refl _) hI rfl
    · intro _ a w1 vs hI ho hn hu K hK
      obtain ⟨e17, g17⟩ : a.tmps[17]? = some (vs 12) ∧ vs 12 = .bool (decide (orI [Lib.compareInt a1 b1, Lib.compareInt a2 b2] < 0)) := hn 12 (by decide)
      rw [g17] at e17
      clear g17
      clear hn ho hu
      go_simp
      exact hK _ _ (keeps_refl _) hI rfl
  · intro vs w4 hI hG
    have eL : vs 13 = .bool (decide (orI [Lib.compareInt a1 b1, Lib.compareInt a2 b2] < 0)) := hG 13 (by decide)
    rw [HE.out] at eL
    have HK4 := Lib.hid (HK.out.trans hI)
    clear hG hI
    simp only [setAll, Nat.zero_add, Nat.reduceAdd, List.setIfInBounds_toArray, List.set_cons_zero, List.set_cons_succ, eL]
    clear eL
    generalize vs 0 = y0 at *
    generalize vs 1 = y1 at *
    generalize vs 2 = y2 at *
    generalize vs 3 = y3 at *
    generalize vs 4 = y4 at *
    generalize vs 5 = y5 at *
    generalize vs 6 = y6 at *
    generalize vs 7 = y7 at *
    generalize vs 8 = y8 at *
    generalize vs 9 = y9 at *
    generalize vs 10 = y10 at *
    generalize vs 11 = y11 at *
    generalize vs 12 = y12 at *
    go_wp2_with fail
    go_ret
    exact ⟨rfl, HK4.out⟩
end Go.Proofs.Ytcapalofocmmoaa
