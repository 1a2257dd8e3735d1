/- The walk of the law FrameMakes. -/
import Derived.Test.YtcapalofocmmoaaRfMake
namespace Go.Proofs.Ytcapalofocmmoaa
open Go.RowKit
def makes5 (a1 a2 b1 b2 E : Int) (S : ByteArray) (L : Bool) (N : Nat) : Nat → Value → Prop
  | i, v => v = ([.string S, .string S, .bool true, .bool true, .int .i64 E, .int .i64 E, .bool true, .bool true, .bool true, .agg #[.int .i64 a1, .int .i64 a2], .agg #[.int .i64 b1, .int .i64 b2], .bool L, .agg #[.int .i64 a1, .int .i64 a2], .agg #[.int .i64 b1, .int .i64 b2], .bool L, .bool true, .bool true, .bool true] : List Value).getD i undef
set_option maxRecDepth 100000 in
set_option maxHeartbeats 4000000 in
theorem fmakes_any (a1 a2 b1 b2 k n : Int) (b : ByteArray) (w : World) (hb : b.size ≤ 140737488351232) : Calls Try.prog 10 #[stV a1 a2, stV b1 b2, stV k n, .string b] w fun e w' => e = .returned (.bool true) ∧ Keeps w w' := by
  have HMK := Lib.hid (fun wx => frmake_any a1 a2 k n b wx hb)
  have HMR := Lib.hid (fun wx => rfmake_any a1 a2 k n b wx hb)
  have HL1 := Lib.hid (frless_any a1 a2 b1 b2)
  have HL2 := Lib.hid (rfless_any a1 a2 b1 b2)
  generalize lessF a1 a2 b1 b2 = L at *
  generalize hE : (makeF a1 a2 k n b).2 = E at *
  generalize hS : (makeF a1 a2 k n b).1 = S at *
  clear hE hS
  unfold stV at HL1 HL2 ⊢
  unfold frV at HMK HMR
  obtain ⟨w1, hw1⟩ : ∃ w1, w1 = ((w.alloc (.cells #[.int .i64 a1, .int .i64 a2] 43)).alloc (.cells #[.int .i64 b1, .int .i64 b2] 43)).alloc (.cells #[.int .i64 k, .int .i64 n] 45) := ⟨_, rfl⟩
  have HK : Hid (Keeps w w1) := by rw [hw1]; exact ((kal _ _).trans (kal _ _)).trans (kal _ _)
  have kw := kal ((w.alloc (.cells #[.int .i64 a1, .int .i64 a2] 43)).alloc (.cells #[.int .i64 b1, .int .i64 b2] 43)) (.cells #[.int .i64 k, .int .i64 n] 45)
  have kv := kal (w.alloc (.cells #[.int .i64 a1, .int .i64 a2] 43)) (.cells #[.int .i64 b1, .int .i64 b2] 43)
  have A1 : Hid (w1.cell? ⟨w.heap.size, 0, none⟩ = some (.int .i64 a1)) := by rw [hw1]; exact keeps_cell kw (keeps_cell kv (World.cell?_alloc_new _ _ _ _))
  have A2 : Hid (w1.cell? ⟨w.heap.size, 1, none⟩ = some (.int .i64 a2)) := by rw [hw1]; exact keeps_cell kw (keeps_cell kv (World.cell?_alloc_new _ _ _ _))
  have z1 : (w.alloc (.cells #[.int .i64 a1, .int .i64 a2] 43)).heap.size = w.heap.size + 1 := by simp
  have z2 : ((w.alloc (.cells #[.int .i64 a1, .int .i64 a2] 43)).alloc (.cells #[.int .i64 b1, .int .i64 b2] 43)).heap.size = w.heap.size + 1 + 1 := by simp
  have B1 : Hid (w1.cell? ⟨w.heap.size + 1, 0, none⟩ = some (.int .i64 b1)) := by rw [hw1, ← z1]; exact keeps_cell kw (World.cell?_alloc_new _ _ _ _)
  have B2 : Hid (w1.cell? ⟨w.heap.size + 1, 1, none⟩ = some (.int .i64 b2)) := by rw [hw1, ← z1]; exact keeps_cell kw (World.cell?_alloc_new _ _ _ _)
  have C1 : Hid (w1.cell? ⟨w.heap.size + 1 + 1, 0, none⟩ = some (.int .i64 k)) := by rw [hw1, ← z2]; exact World.cell?_alloc_new _ _ _ _
  have C2 : Hid (w1.cell? ⟨w.heap.size + 1 + 1, 1, none⟩ = some (.int .i64 n)) := by rw [hw1, ← z2]; exact World.cell?_alloc_new _ _ _ _
  clear kw kv z1 z2
  by_cases g1 : 5000 < b.size
  · have i1 : 5000 < (b.size : Int) := by omega
    have d1 : decide (5000 < (b.size : Int)) = true := decide_eq_true i1
    clear g1
    by_cases g2 : b.size < 60000
    · have i2 : (b.size : Int) < 60000 := by omega
      have d2 : decide ((b.size : Int) < 60000) = true := decide_eq_true i2
      clear g2
      go_enter Try.func10, Try.ntmps10
      go_wp2_with fail
      go_ret
      exact ⟨rfl, by rw [← hw1]; exact HK.out⟩
    · have i2 : ¬ (b.size : Int) < 60000 := by omega
      have d2 : decide ((b.size : Int) < 60000) = false := decide_eq_false i2
      clear g2
      go_enter Try.func10, Try.ntmps10
      go_wp2_with fail
      rw [← hw1]
      clear hw1
      generalize w.heap.size = N at *
      have c1 := A1.out
      have c2 := A2.out
      have c3 := C1.out
      have c4 := C2.out
      go_wp2_with fail
      refine Calls.mono (HMK.out _) ?_
      rintro e w2 ⟨rfl, hk⟩
      have HK2 := Lib.hid (HK.out.trans hk)
      clear c1 c2 c3 c4
      have c1 := keeps_cell hk A1.out
      have c2 := keeps_cell hk A2.out
      have c3 := keeps_cell hk C1.out
      have c4 := keeps_cell hk C2.out
      have B1 := Lib.hid (keeps_cell hk B1.out)
      have B2 := Lib.hid (keeps_cell hk B2.out)
      clear hk A1 A2 C1 C2 HK
      go_wp2_with fail
      refine Calls.mono (HMR.out _) ?_
      rintro e w3 ⟨rfl, hk⟩
      have HK3 := Lib.hid (HK2.out.trans hk)
      have A1 := Lib.hid (keeps_cell hk c1)
      have A2 := Lib.hid (keeps_cell hk c2)
      have B1 := Lib.hid (keeps_cell hk B1.out)
      have B2 := Lib.hid (keeps_cell hk B2.out)
      clear hk c1 c2 c3 c4 HK2 HMK HMR
      go_wp2_with fail
      refine wp_region_stage [37, 38, 39, 40, 41, 42, 43, 44, 45, 46, 47, 48, 49, 50, 51, 52, 53, 8] [[], [], [0, 1], [2], [3], [3], [3, 4, 5], [3, 6], [7], [8], [8], [8, 9, 10], [8], [8], [8, 12, 13], [8, 11, 14], [8, 15], [16]] [] [0, 0, 0, 0, 0, 0, 0, 0, 0, 0, 0, 0, 0, 0, 0, 0, 0, 0] [] (fun i v _ => makes5 a1 a2 b1 b2 E S L N i v) (fun w w' => Keeps w w') (fun _ _ w' => Keeps w3 w') (by kernel_rfl) (by kernel_rfl) (by kernel_rfl) (by kernel_rfl) (by kernel_rfl) (by kernel_rfl) (by kernel_rfl) ?_ ?_ ?_ ?_ ?_ ?_ ?_
      · exact fun i v w w' c h => h
      · exact fun w => keeps_refl w
      · exact fun i s vs w h => by cases h
      · refine ⟨?_, ?_, ?_, ?_, ?_, ?_, ?_, ?_, ?_, ?_, ?_, ?_, ?_, ?_, ?_, ?_, ?_, ?_, trivial⟩
        · exact fun g b h => by (cases h)
        · exact fun g b h => by (cases h)
        · exact fun g b h => by (cases h)
        · exact fun g b h => by (cases h)
        · exact fun g b h => by (cases h; exact ⟨by decide, fun v w h => h⟩)
        · exact fun g b h => by (cases h; exact ⟨by decide, fun v w h => h⟩)
        · exact fun g b h => by (cases h; exact ⟨by decide, fun v w h => h⟩)
        · exact fun g b h => by (cases h)
        · exact fun g b h => by (cases h)
        · exact fun g b h => by (cases h; exact ⟨by decide, fun v w h => h⟩)
        · exact fun g b h => by (cases h; exact ⟨by decide, fun v w h => h⟩)
        · exact fun g b h => by (cases h; exact ⟨by decide, fun v w h => h⟩)
        · exact fun g b h => by (cases h; exact ⟨by decide, fun v w h => h⟩)
        · exact fun g b h => by (cases h; exact ⟨by decide, fun v w h => h⟩)
        · exact fun g b h => by (cases h; exact ⟨by decide, fun v w h => h⟩)
        · exact fun g b h => by (cases h; exact ⟨by decide, fun v w h => h⟩)
        · exact fun g b h => by (cases h)
        · exact fun g b h => by (cases h)
      · exact fun _ _ => keeps_refl w3
      · refine ⟨?_, ?_, ?_, ?_, ?_, ?_, ?_, ?_, ?_, ?_, ?_, ?_, ?_, ?_, ?_, ?_, ?_, ?_, trivial⟩
        · intro _ a w1 vs hI ho hn hu K hK
          have e9 : a.tmps[9]? = some (.string S) := ho 9 rfl
          clear hn ho hu
          go_simp
          exact hK _ _ (keeps_refl _) hI rfl
        · intro _ a w1 vs hI ho hn hu K hK
          have e11 : a.tmps[11]? = some (.string S) := ho 11 rfl
          clear hn ho hu
          go_simp
          exact hK _ _ (keeps_refl _) hI rfl
        · intro _ a w1 vs hI ho hn hu K hK
          obtain ⟨e37, g37⟩ : a.tmps[37]? = some (vs 0) ∧ vs 0 = .string S := hn 0 (by decide)
          rw [g37] at e37
          clear g37
          obtain ⟨e38, g38⟩ : a.tmps[38]? = some (vs 1) ∧ vs 1 = .string S := hn 1 (by decide)
          rw [g38] at e38
          clear g38
          clear hn ho hu
          go_simp
          exact hK _ _ (keeps_refl _) hI rfl
        · intro _ a w1 vs hI ho hn hu K hK
          obtain ⟨e39, g39⟩ : a.tmps[39]? = some (vs 2) ∧ vs 2 = .bool true := hn 2 (by decide)
          rw [g39] at e39
          clear g39
          clear hn ho hu
          go_simp
          exact hK _ _ (keeps_refl _) hI rfl
        · intro _ a w1 vs hI ho hn hu K hK
          have e10 : a.tmps[10]? = some (.int .i64 E) := ho 10 rfl
          clear hn ho hu
          go_simp
          exact hK _ _ (keeps_refl _) hI rfl
        · intro _ a w1 vs hI ho hn hu K hK
          have e12 : a.tmps[12]? = some (.int .i64 E) := ho 12 rfl
          clear hn ho hu
          go_simp
          exact hK _ _ (keeps_refl _) hI rfl
        · intro _ a w1 vs hI ho hn hu K hK
          obtain ⟨e41, g41⟩ : a.tmps[41]? = some (vs 4) ∧ vs 4 = .int .i64 E := hn 4 (by decide)
          rw [g41] at e41
          clear g41
          obtain ⟨e42, g42⟩ : a.tmps[42]? = some (vs 5) ∧ vs 5 = .int .i64 E := hn 5 (by decide)
          rw [g42] at e42
          clear g42
          clear hn ho hu
          go_simp
          exact hK _ _ (keeps_refl _) hI rfl
        · intro _ a w1 vs hI ho hn hu K hK
          obtain ⟨e40, g40⟩ : a.tmps[40]? = some (vs 3) ∧ vs 3 = .bool true := hn 3 (by decide)
          rw [g40] at e40
          clear g40
          obtain ⟨e43, g43⟩ : a.tmps[43]? = some (vs 6) ∧ vs 6 = .bool true := hn 6 (by decide)
          rw [g43] at e43
          clear g43
          clear hn ho hu
          go_simp
          exact hK _ _ (keeps_refl _) hI rfl
        · intro _ a w1 vs hI ho hn hu K hK
          obtain ⟨e44, g44⟩ : a.tmps[44]? = some (vs 7) ∧ vs 7 = .bool true := hn 7 (by decide)
          rw [g44] at e44
          clear g44
          clear hn ho hu
          go_simp
          exact hK _ _ (keeps_refl _) hI rfl
        · intro _ a w1 vs hI ho hn hu K hK
          have e4 : a.tmps[4]? = some (.pointer (some ⟨N, 0, none⟩)) := ho 4 rfl
          clear hn ho hu
          have c := keeps_cell hI A1.out
          have c2 := keeps_cell hI A2.out
          go_simp
          exact hK _ _ (keeps_refl _) hI rfl
        · intro _ a w1 vs hI ho hn hu K hK
          have e5 : a.tmps[5]? = some (.pointer (some ⟨N + 1, 0, none⟩)) := ho 5 rfl
          clear hn ho hu
          have c := keeps_cell hI B1.out
          have c2 := keeps_cell hI B2.out
          go_simp
          exact hK _ _ (keeps_refl _) hI rfl
        · intro _ a w1 vs hI ho hn hu K hK
          obtain ⟨e46, g46⟩ : a.tmps[46]? = some (vs 9) ∧ vs 9 = .agg #[.int .i64 a1, .int .i64 a2] := hn 9 (by decide)
          rw [g46] at e46
          clear g46
          obtain ⟨e47, g47⟩ : a.tmps[47]? = some (vs 10) ∧ vs 10 = .agg #[.int .i64 b1, .int .i64 b2] := hn 10 (by decide)
          rw [g47] at e47
          clear g47
          clear hn ho hu
          go_simp
          refine Calls.mono (HL1.out _) ?_
          rintro e w' ⟨rfl, hk2⟩
          go_simp
          exact hK _ _ hk2 (Keeps.trans hI hk2) rfl
        · intro _ a w1 vs hI ho hn hu K hK
          have e4 : a.tmps[4]? = some (.pointer (some ⟨N, 0, none⟩)) := ho 4 rfl
          clear hn ho hu
          have c := keeps_cell hI A1.out
          have c2 := keeps_cell hI A2.out
          go_simp
          exact hK _ _ (keeps_refl _) hI rfl
        · intro _ a w1 vs hI ho hn hu K hK
          have e5 : a.tmps[5]? = some (.pointer (some ⟨N + 1, 0, none⟩)) := ho 5 rfl
          clear hn ho hu
          have c := keeps_cell hI B1.out
          have c2 := keeps_cell hI B2.out
          go_simp
          exact hK _ _ (keeps_refl _) hI rfl
        · intro _ a w1 vs hI ho hn hu K hK
          obtain ⟨e49, g49⟩ : a.tmps[49]? = some (vs 12) ∧ vs 12 = .agg #[.int .i64 a1, .int .i64 a2] := hn 12 (by decide)
          rw [g49] at e49
          clear g49
          obtain ⟨e50, g50⟩ : a.tmps[50]? = some (vs 13) ∧ vs 13 = .agg #[.int .i64 b1, .int .i64 b2] := hn 13 (by decide)
          rw [g50] at e50
          clear g50
          clear hn ho hu
          go_simp
          refine Calls.mono (HL2.out _) ?_
          rintro e w' ⟨rfl, hk2⟩
          go_simp
          exact hK _ _ hk2 (Keeps.trans hI hk2) rfl
        · intro _ a w1 vs hI ho hn hu K hK
          obtain ⟨e48, g48⟩ : a.tmps[48]? = some (vs 11) ∧ vs 11 = .bool L := hn 11 (by decide)
          rw [g48] at e48
          clear g48
          obtain ⟨e51, g51⟩ : a.tmps[51]? = some (vs 14) ∧ vs 14 = .bool L := hn 14 (by decide)
          rw [g51] at e51
          clear g51
          clear hn ho hu
          go_simp
          exact hK _ _ (keeps_refl _) hI rfl
        · intro _ a w1 vs hI ho hn hu K hK
          obtain ⟨e45, g45⟩ : a.tmps[45]? = some (vs 8) ∧ vs 8 = .bool true := hn 8 (by decide)
          rw [g45] at e45
          clear g45
          obtain ⟨e52, g52⟩ : a.tmps[52]? = some (vs 15) ∧ vs 15 = .bool true := hn 15 (by decide)
          rw [g52] at e52
          clear g52
          clear hn ho hu
          go_simp
          exact hK _ _ (keeps_refl _) hI rfl
        · intro _ a w1 vs hI ho hn hu K hK
          obtain ⟨e53, g53⟩ : a.tmps[53]? = some (vs 16) ∧ vs 16 = .bool true := hn 16 (by decide)
          rw [g53] at e53
          clear g53
          clear hn ho hu
          go_simp
          exact hK _ _ (keeps_refl _) hI rfl
      · intro vs w4 hI hG
        have eL : vs 17 = .bool true := hG 17 (by decide)
        have HK4 := Lib.hid (HK3.out.trans hI)
        clear hG hI
        simp only [setAll, Nat.zero_add, Nat.reduceAdd, List.setIfInBounds_toArray, List.set_cons_zero, List.set_cons_succ, eL]
        clear eL
        generalize vs 0 = y0 at *
        generalize vs 1 = y1 at *
        generalize vs 2 = y2 at *
        generalize vs 3 = y3 at *
        generalize vs 4 = y4 at *
        generalize vs 5 = y5 at *
        generalize vs 6 = y6 at *
        generalize vs 7 = y7 at *
        generalize vs 8 = y8 at *
        generalize vs 9 = y9 at *
        generalize vs 10 = y10 at *
        generalize vs 11 = y11 at *
        generalize vs 12 = y12 at *
        generalize vs 13 = y13 at *
        generalize vs 14 = y14 at *
        generalize vs 15 = y15 at *
        generalize vs 16 = y16 at *
        go_wp2_with fail
        go_ret
        exact ⟨rfl, HK4.out⟩
  · have i1 : ¬ 5000 < (b.size : Int) := by omega
    have d1 : decide (5000 < (b.size : Int)) = false := decide_eq_false i1
    clear g1
    go_enter Try.func10, Try.ntmps10
    go_wp2_with fail
    rw [← hw1]
    clear hw1
    generalize w.heap.size = N at *
    have c1 := A1.out
    have c2 := A2.out
    have c3 := C1.out
    have c4 := C2.out
    go_wp2_with fail
    refine Calls.mono (HMK.out _) ?_
    rintro e w2 ⟨rfl, hk⟩
    have HK2 := Lib.hid (HK.out.trans hk)
    clear c1 c2 c3 c4
    have c1 := keeps_cell hk A1.out
    have c2 := keeps_cell hk A2.out
    have c3 := keeps_cell hk C1.out
    have c4 := keeps_cell hk C2.out
    have B1 := Lib.hid (keeps_cell hk B1.out)
    have B2 := Lib.hid (keeps_cell hk B2.out)
    clear hk A1 A2 C1 C2 HK
    go_wp2_with fail
    refine Calls.mono (HMR.out _) ?_
    rintro e w3 ⟨rfl, hk⟩
    have HK3 := Lib.hid (HK2.out.trans hk)
    have A1 := Lib.hid (keeps_cell hk c1)
    have A2 := Lib.hid (keeps_cell hk c2)
    have B1 := Lib.hid (keeps_cell hk B1.out)
    have B2 := Lib.hid (keeps_cell hk B2.out)
    clear hk c1 c2 c3 c4 HK2 HMK HMR
    go_wp2_with fail
    refine wp_region_stage [37, 38, 39, 40, 41, 42, 43, 44, 45, 46, 47, 48, 49, 50, 51, 52, 53, 8] [[], [], [0, 1], [2], [3], [3], [3, 4, 5], [3, 6], [7], [8], [8], [8, 9, 10], [8], [8], [8, 12, 13], [8, 11, 14], [8, 15], [16]] [] [0, 0, 0, 0, 0, 0, 0, 0, 0, 0, 0, 0, 0, 0, 0, 0, 0, 0] [] (fun i v _ => makes5 a1 a2 b1 b2 E S L N i v) (fun w w' => Keeps w w') (fun _ _ w' => Keeps w3 w') (by kernel_rfl) (by kernel_rfl) (by kernel_rfl) (by kernel_rfl) (by kernel_rfl) (by kernel_rfl) (by kernel_rfl) ?_ ?_ ?_ ?_ ?_ ?_ ?_
    · exact fun i v w w' c h => h
    · exact fun w => keeps_refl w
    · exact fun i s vs w h => by cases h
    · refine ⟨?_, ?_, ?_, ?_, ?_, ?_, ?_, ?_, ?_, ?_, ?_, ?_, ?_, ?_, ?_, ?_, ?_, ?_, trivial⟩
      · exact fun g b h => by (cases h)
      · exact fun g b h => by (cases h)
      · exact fun g b h => by (cases h)
      · exact fun g b h => by (cases h)
      · exact fun g b h => by (cases h; exact ⟨by decide, fun v w h => h⟩)
      · exact fun g b h => by (cases h; exact ⟨by decide, fun v w h => h⟩)
      · exact fun g b h => by (cases h; exact ⟨by decide, fun v w h => h⟩)
      · exact fun g b h => by (cases h)
      · exact fun g b h => by (cases h)
      · exact fun g b h => by (cases h; exact ⟨by decide, fun v w h => h⟩)
      · exact fun g b h => by (cases h; exact ⟨by decide, fun v w h => h⟩)
      · exact fun g b h => by (cases h; exact ⟨by decide, fun v w h => h⟩)
      · exact fun g b h => by (cases h; exact ⟨by decide, fun v w h => h⟩)
      · exact fun g b h => by (cases h; exact ⟨by decide, fun v w h => h⟩)
      · exact fun g b h => by (cases h; exact ⟨by decide, fun v w h => h⟩)
      · exact fun g b h => by (cases h; exact ⟨by decide, fun v w h => h⟩)
      · exact fun g b h => by (cases h)
      · exact fun g b h => by (cases h)
    · exact fun _ _ => keeps_refl w3
    · refine ⟨?_, ?_, ?_, ?_, ?_, ?_, ?_, ?_, ?_, ?_, ?_, ?_, ?_, ?_, ?_, ?_, ?_, ?_, trivial⟩
      · intro _ a w1 vs hI ho hn hu K hK
        have e9 : a.tmps[9]? = some (.string S) := ho 9 rfl
        clear hn ho hu
        go_simp
        exact hK _ _ (keeps_refl _) hI rfl
      · intro _ a w1 vs hI ho hn hu K hK
        have e11 : a.tmps[11]? = some (.string S) := ho 11 rfl
        clear hn ho hu
        go_simp
        exact hK _ _ (keeps_refl _) hI rfl
      · intro _ a w1 vs hI ho hn hu K hK
        obtain ⟨e37, g37⟩ : a.tmps[37]? = some (vs 0) ∧ vs 0 = .string S := hn 0 (by decide)
        rw [g37] at e37
        clear g37
        obtain ⟨e38, g38⟩ : a.tmps[38]? = some (vs 1) ∧ vs 1 = .string S := hn 1 (by decide)
        rw [g38] at e38
        clear g38
        clear hn ho hu
        go_simp
        exact hK _ _ (keeps_refl _) hI rfl
      · intro _ a w1 vs hI ho hn hu K hK
        obtain ⟨e39, g39⟩ : a.tmps[39]? = some (vs 2) ∧ vs 2 = .bool true := hn 2 (by decide)
        rw [g39] at e39
        clear g39
        clear hn ho hu
        go_simp
        exact hK _ _ (keeps_refl _) hI rfl
      · intro _ a w1 vs hI ho hn hu K hK
        have e10 : a.tmps[10]? = some (.int .i64 E) := ho 10 rfl
        clear hn ho hu
        go_simp
        exact hK _ _ (keeps_refl _) hI rfl
      · intro _ a w1 vs hI ho hn hu K hK
        have e12 : a.tmps[12]? = some (.int .i64 E) := ho 12 rfl
        clear hn ho hu
        go_simp
        exact hK _ _ (keeps_refl _) hI rfl
      · intro _ a w1 vs hI ho hn hu K hK
        obtain ⟨e41, g41⟩ : a.tmps[41]? = some (vs 4) ∧ vs 4 = .int .i64 E := hn 4 (by decide)
        rw [g41] at e41
        clear g41
        obtain ⟨e42, g42⟩ : a.tmps[42]? = some (vs 5) ∧ vs 5 = .int .i64 E := hn 5 (by decide)
        rw [g42] at e42
        clear g42
        clear hn ho hu
        go_simp
        exact hK _ _ (keeps_refl _) hI rfl
      · intro _ a w1 vs hI ho hn hu K hK
        obtain ⟨e40, g40⟩ : a.tmps[40]? = some (vs 3) ∧ vs 3 = .bool true := hn 3 (by decide)
        rw [g40] at e40
        clear g40
        obtain ⟨e43, g43⟩ : a.tmps[43]? = some (vs 6) ∧ vs 6 = .bool true := hn 6 (by decide)
        rw [g43] at e43
        clear g43
        clear hn ho hu
        go_simp
        exact hK _ _ (keeps_refl _) hI rfl
      · intro _ a w1 vs hI ho hn hu K hK
        obtain ⟨e44, g44⟩ : a.tmps[44]? = some (vs 7) ∧ vs 7 = .bool true := hn 7 (by decide)
        rw [g44] at e44
        clear g44
        clear hn ho hu
        go_simp
        exact hK _ _ (keeps_refl _) hI rfl
      · intro _ a w1 vs hI ho hn hu K hK
        have e4 : a.tmps[4]? = some (.pointer (some ⟨N, 0, none⟩)) := ho 4 rfl
        clear hn ho hu
        have c := keeps_cell hI A1.out
        have c2 := keeps_cell hI A2.out
        go_simp
        exact hK _ _ (keeps_refl _) hI rfl
      · intro _ a w1 vs hI ho hn hu K hK
        have e5 : a.tmps[5]? = some (.pointer (some ⟨N + 1, 0, none⟩)) := ho 5 rfl
        clear hn ho hu
        have c := keeps_cell hI B1.out
        have c2 := keeps_cell hI B2.out
        go_simp
        exact hK _ _ (keeps_refl _) hI rfl
      · intro _ a w1 vs hI ho hn hu K hK
        obtain ⟨e46, g46⟩ : a.tmps[46]? = some (vs 9) ∧ vs 9 = .agg #[.int .i64 a1, .int .i64 a2] := hn 9 (by decide)
        rw [g46] at e46
        clear g46
        obtain ⟨e47, g47⟩ : a.tmps[47]? = some (vs 10) ∧ vs 10 = .agg #[.int .i64 b1, .int .i64 b2] := hn 10 (by decide)
        rw [g47] at e47
        clear g47
        clear hn ho hu
        go_simp
        refine Calls.mono (HL1.out _) ?_
        rintro e w' ⟨rfl, hk2⟩
        go_simp
        exact hK _ _ hk2 (Keeps.trans hI hk2) rfl
      · intro _ a w1 vs hI ho hn hu K hK
        have e4 : a.tmps[4]? = some (.pointer (some ⟨N, 0, none⟩)) := ho 4 rfl
        clear hn ho hu
        have c := keeps_cell hI A1.out
        have c2 := keeps_cell hI A2.out
        go_simp
        exact hK _ _ (keeps_refl _) hI rfl
      · intro _ a w1 vs hI ho hn hu K hK
        have e5 : a.tmps[5]? = some (.pointer (some ⟨N + 1, 0, none⟩)) := ho 5 rfl
        clear hn ho hu
        have c := keeps_cell hI B1.out
        have c2 := keeps_cell hI B2.out
        go_simp
        exact hK _ _ (keeps_refl _) hI rfl
      · intro _ a w1 vs hI ho hn hu K hK
        obtain ⟨e49, g49⟩ : a.tmps[49]? = some (vs 12) ∧ vs 12 = .agg #[.int .i64 a1, .int .i64 a2] := hn 12 (by decide)
        rw [g49] at e49
        clear g49
        obtain ⟨e50, g50⟩ : a.tmps[50]? = some (vs 13) ∧ vs 13 = .agg #[.int .i64 b1, .int .i64 b2] := hn 13 (by decide)
        rw [g50] at e50
        clear g50
        clear hn ho hu
        go_simp
        refine Calls.mono (HL2.out _) ?_
        rintro e w' ⟨rfl, hk2⟩
        go_simp
        exact hK _ _ hk2 (Keeps.trans hI hk2) rfl
      · intro _ a w1 vs hI ho hn hu K hK
        obtain ⟨e48, g48⟩ : a.tmps[48]? = some (vs 11) ∧ vs 11 = .bool L := hn 11 (by decide)
        rw [g48] at e48
        clear g48
        obtain ⟨e51, g51⟩ : a.tmps[51]? = some (vs 14) ∧ vs 14 = .bool L := hn 14 (by decide)
        rw [g51] at e51
        clear g51
        clear hn ho hu
        go_simp
        exact hK _ _ (keeps_refl _) hI rfl
      · intro _ a w1 vs hI ho hn hu K hK
        obtain ⟨e45, g45⟩ : a.tmps[45]? = some (vs 8) ∧ vs 8 = .bool true := hn 8 (by decide)
        rw [g45] at e45
        clear g45
        obtain ⟨e52, g52⟩ : a.tmps[52]? = some (vs 15) ∧ vs 15 = .bool true := hn 15 (by decide)
        rw [g52] at e52
        clear g52
        clear hn ho hu
        go_simp
        exact hK _ _ (keeps_refl _) hI rfl
      · intro _ a w1 vs hI ho hn hu K hK
        obtain ⟨e53, g53⟩ : a.tmps[53]? = some (vs 16) ∧ vs 16 = .bool true := hn 16 (by decide)
        rw [g53] at e53
        clear g53
        clear hn ho hu
        go_simp
        exact hK _ _ (keeps_refl _) hI rfl
    · intro vs w4 hI hG
      have eL : vs 17 = .bool true := hG 17 (by decide)
      have HK4 := Lib.hid (HK3.out.trans hI)
      clear hG hI
      simp only [setAll, Nat.zero_add, Nat.reduceAdd, List.setIfInBounds_toArray, List.set_cons_zero, List.set_cons_succ, eL]
      clear eL
      generalize vs 0 = y0 at *
      generalize vs 1 = y1 at *
      generalize vs 2 = y2 at *
      generalize vs 3 = y3 at *
      generalize vs 4 = y4 at *
      generalize vs 5 = y5 at *
      generalize vs 6 = y6 at *
      generalize vs 7 = y7 at *
      generalize vs 8 = y8 at *
      generalize vs 9 = y9 at *
      generalize vs 10 = y10 at *
      generalize vs 11 = y11 at *
      generalize vs 12 = y12 at *
      generalize vs 13 = y13 at *
      generalize vs 14 = y14 at *
      generalize vs 15 = y15 at *
      generalize vs 16 = y16 at *
      go_wp2_with fail
      go_ret
      exact ⟨rfl, HK4.out⟩
end Go.Proofs.Ytcapalofocmmoaa
