/- The walks of slices.Equal at files, path.Same, the reference's Same. Printed by gensame.py. -/
import Derived.Test.YtdpfanifagfciaaDoorTreeR2
import Derived.Test.YtdpfanifagfciaaDoorStage
namespace Go.Proofs.YtdpfanifagfciaaDoor
open Go.RowKit
attribute [local go_sem ↓] Go.wp_at_zero Go.wp_at_succ
def equalF (b1 o1 n q b2 o2 m q2 k : Nat) (x1 x3 y1 y3 : ByteArray) (x2 y2 : Bool) : Nat → Value → Prop
  | i, v => v = ([.slice (some ⟨b1, o1, none⟩) n q, .int .i64 (k : Int), .pointer (some ⟨b1, o1 + k * 3, none⟩), .agg #[.string x1, .bool x2, .string x3], .slice (some ⟨b2, o2, none⟩) m q2, .int .i64 (k : Int), .pointer (some ⟨b2, o2 + k * 3, none⟩), .agg #[.string y1, .bool y2, .string y3], .bool true] : List Value).getD i undef
def equalT (b1 o1 n q b2 o2 m q2 k : Nat) (x1 x3 y1 y3 : ByteArray) (x2 y2 : Bool) : Nat → Value → Prop
  | i, v => v = ([.slice (some ⟨b1, o1, none⟩) n q, .int .i64 (k : Int), .pointer (some ⟨b1, o1 + k * 3, none⟩), .agg #[.string x1, .bool x2, .string x3], .slice (some ⟨b2, o2, none⟩) m q2, .int .i64 (k : Int), .pointer (some ⟨b2, o2 + k * 3, none⟩), .agg #[.string y1, .bool y2, .string y3], .bool false] : List Value).getD i undef
set_option maxRecDepth 100000 in
set_option maxHeartbeats 4000000 in
theorem equal_any (v u : Value) (l m : List FileR) (w : World) (h : FilesAt w.heap v l) (hm : FilesAt w.heap u m) : Calls Tryd.prog 66 #[v, u] w fun e w' => e = .returned (.bool (sameF l m)) ∧ Keeps w w' := by
  obtain ⟨p, q, rfl⟩ := rec_shape h
  obtain ⟨p2, q2, rfl⟩ := rec_shape hm
  have hl63 : l.length ≤ 9223372036854775807 := let ⟨_, _, _, x, _⟩ := h; x
  have hm63 : m.length ≤ 9223372036854775807 := let ⟨_, _, _, x, _⟩ := hm; x
  have H := Lib.hid h
  have HM := Lib.hid hm
  clear h hm
  by_cases he : l.length = m.length
  · have HS : Hid (sameF l m = sameTo l m l.length) := by show _ = _; unfold sameF; rw [decide_eq_true he]; rfl
    have g1 : ((l.length : Int) == (m.length : Int)) = true := by rw [beq_iff_eq]; omega
    have g2 : decide ((l.length : Int) = (m.length : Int)) = true := decide_eq_true (by omega)
    have g3 : (l.length == m.length) = true := by rw [beq_iff_eq]; exact he
    have HE := Lib.hid he
    clear he
    go_enter Tryd.func66, Tryd.ntmps66
    go_wp2_with fail
    clear g1 g2 g3
    generalize ((l.length : Int) != (m.length : Int)) = bb
    go_loopw [13] (fun i wr => ∃ k : Nat, k ≤ l.length ∧ i = .int .i64 k ∧ Hid (∀ j, j < k → fEq (fAt l j) (fAt m j) = true) ∧ Hid (Keeps w wr)) (fun i _ => l.length - (intOf i).toNat)
    case atStart => exact ⟨0, by omega, rfl, fun j h => absurd h (by omega), keeps_refl _⟩
    case round =>
      obtain ⟨k, hk, rfl, hN, hK⟩ := hrel
      by_cases hlt : k < l.length
      · have hlt64 : (k : Int) < (l.length : Int) := by omega
        have HA : Hid ((0 : Int) ≤ (k : Int) ∧ (k : Int) < (l.length : Int) ∧ (k : Int) < (m.length : Int)) := by have := HE.out; exact ⟨by omega, by omega, by omega⟩
        obtain ⟨b1, o1, rfl, _, a0, a1, a2⟩ := file_cell (RecAt.keeps H.out hK.out) hlt
        obtain ⟨b2, o2, rfl, _, c0, c1, c2⟩ := file_cell (RecAt.keeps HM.out hK.out) (i := k) (by have := HE.out; omega)
        have HN2 : Hid (fEq (fAt l k) (fAt m k) = true → ∀ j, j < k + 1 → fEq (fAt l j) (fAt m j) = true) := fun e j hj => by
          by_cases e2 : j = k
          · subst e2; exact e
          · exact hN.out j (by omega)
        have HF : Hid (fEq (fAt l k) (fAt m k) = false → sameF l m = false) := fun e => by
          rw [HS.out]
          unfold sameTo
          rw [List.all_eq_false]
          exact ⟨k, List.mem_range.2 hlt, by rw [e]; simp⟩
        have HNE := Lib.hid (run_fNe (fAt l k) (fAt m k))
        generalize fEq (fAt l k) (fAt m k) = y at *
        generalize (fAt l k).p = x1 at *
        generalize (fAt l k).d = x2 at *
        generalize (fAt l k).t = x3 at *
        generalize (fAt m k).p = y1 at *
        generalize (fAt m k).d = y2 at *
        generalize (fAt m k).t = y3 at *
        have A0 := Lib.hid a0
        have A1 := Lib.hid a1
        have A2 := Lib.hid a2
        have C0 := Lib.hid c0
        have C1 := Lib.hid c1
        have C2 := Lib.hid c2
        clear a0 a1 a2 c0 c1 c2
        generalize l.length = n at *
        generalize m.length = m' at *
        cases y with
        | false =>
          go_wp2_with fail
          refine wp_region_stage [16, 17, 18, 19, 20, 21, 22, 23, 24] [[], [], [0, 1], [2], [], [], [4, 5], [6], [3, 7]] [] [0, 0, 0, 0, 0, 0, 0, 0, 0] [] (fun i v _ => equalF b1 o1 n q b2 o2 m' q2 k x1 x3 y1 y3 x2 y2 i v) (fun w w' => Keeps w w') (fun _ _ w' => Keeps wr w') (by kernel_rfl) (by kernel_rfl) (by kernel_rfl) (by kernel_rfl) (by kernel_rfl) (by kernel_rfl) (by kernel_rfl) ?_ ?_ ?_ ?_ ?_ ?_ ?_
          · exact fun i v w w' c h => h
          · exact fun w => keeps_refl w
          · exact fun i s vs w _ h => h
          · refine ⟨?_, ?_, ?_, ?_, ?_, ?_, ?_, ?_, ?_, trivial⟩
            · exact fun g b h => by (cases h)
            · exact fun g b h => by (cases h)
            · exact fun g b h => by (cases h)
            · exact fun g b h => by (cases h)
            · exact fun g b h => by (cases h)
            · exact fun g b h => by (cases h)
            · exact fun g b h => by (cases h)
            · exact fun g b h => by (cases h)
            · exact fun g b h => by (cases h)
          · exact fun _ _ => keeps_refl wr
          · refine ⟨?_, ?_, ?_, ?_, ?_, ?_, ?_, ?_, ?_, trivial⟩
            · intro _ a w1 vs hI ho hn hu K hK
              have e0 : a.tmps[0]? = some (.slice (some ⟨b1, o1, none⟩) n q) := ho 0 rfl
              clear hn ho hu
              go_simp
              exact hK _ _ (keeps_refl _) hI rfl
            · intro _ a w1 vs hI ho hn hu K hK
              have e5 : a.tmps[5]? = some (.int .i64 (k : Int)) := ho 5 rfl
              clear hn ho hu
              go_simp
              exact hK _ _ (keeps_refl _) hI rfl
            · intro _ a w1 vs hI ho hn hu K hK
              obtain ⟨e16, g16⟩ : a.tmps[16]? = some (vs 0) ∧ vs 0 = .slice (some ⟨b1, o1, none⟩) n q := hn 0 (by decide)
              rw [g16] at e16
              clear g16
              obtain ⟨e17, g17⟩ : a.tmps[17]? = some (vs 1) ∧ vs 1 = .int .i64 (k : Int) := hn 1 (by decide)
              rw [g17] at e17
              clear g17
              clear hn ho hu
              have i1 := HA.out.1
              have i2 := HA.out.2.1
              go_simp
              exact hK _ _ (keeps_refl _) hI rfl
            · intro _ a w1 vs hI ho hn hu K hK
              obtain ⟨e18, g18⟩ : a.tmps[18]? = some (vs 2) ∧ vs 2 = .pointer (some ⟨b1, o1 + k * 3, none⟩) := hn 2 (by decide)
              rw [g18] at e18
              clear g18
              clear hn ho hu
              have c0 := keeps_cell hI A0.out
              have c1 := keeps_cell hI A1.out
              have c2 := keeps_cell hI A2.out
              go_simp
              exact hK _ _ (keeps_refl _) hI rfl
            · intro _ a w1 vs hI ho hn hu K hK
              have e1 : a.tmps[1]? = some (.slice (some ⟨b2, o2, none⟩) m' q2) := ho 1 rfl
              clear hn ho hu
              go_simp
              exact hK _ _ (keeps_refl _) hI rfl
            · intro _ a w1 vs hI ho hn hu K hK
              have e5 : a.tmps[5]? = some (.int .i64 (k : Int)) := ho 5 rfl
              clear hn ho hu
              go_simp
              exact hK _ _ (keeps_refl _) hI rfl
            · intro _ a w1 vs hI ho hn hu K hK
              obtain ⟨e20, g20⟩ : a.tmps[20]? = some (vs 4) ∧ vs 4 = .slice (some ⟨b2, o2, none⟩) m' q2 := hn 4 (by decide)
              rw [g20] at e20
              clear g20
              obtain ⟨e21, g21⟩ : a.tmps[21]? = some (vs 5) ∧ vs 5 = .int .i64 (k : Int) := hn 5 (by decide)
              rw [g21] at e21
              clear g21
              clear hn ho hu
              have i1 := HA.out.1
              have i2 := HA.out.2.2
              go_simp
              exact hK _ _ (keeps_refl _) hI rfl
            · intro _ a w1 vs hI ho hn hu K hK
              obtain ⟨e22, g22⟩ : a.tmps[22]? = some (vs 6) ∧ vs 6 = .pointer (some ⟨b2, o2 + k * 3, none⟩) := hn 6 (by decide)
              rw [g22] at e22
              clear g22
              clear hn ho hu
              have c0 := keeps_cell hI C0.out
              have c1 := keeps_cell hI C1.out
              have c2 := keeps_cell hI C2.out
              go_simp
              exact hK _ _ (keeps_refl _) hI rfl
            · intro _ a w1 vs hI ho hn hu K hK
              obtain ⟨e19, g19⟩ : a.tmps[19]? = some (vs 3) ∧ vs 3 = .agg #[.string x1, .bool x2, .string x3] := hn 3 (by decide)
              rw [g19] at e19
              clear g19
              obtain ⟨e23, g23⟩ : a.tmps[23]? = some (vs 7) ∧ vs 7 = .agg #[.string y1, .bool y2, .string y3] := hn 7 (by decide)
              rw [g23] at e23
              clear g23
              clear hn ho hu
              have hne := HNE.out
              go_simp
              exact hK _ _ (keeps_refl _) hI rfl
          · intro vs wE hI hG
            have eL8 : vs 8 = .bool true := hG 8 (by decide)
            have HKE := Lib.hid hI
            clear hG hI
            simp only [setAll, Nat.zero_add, Nat.reduceAdd, List.setIfInBounds_toArray, List.set_cons_zero, List.set_cons_succ, eL8]
            clear eL8
            generalize vs 0 = y0 at *
            generalize vs 1 = y1 at *
            generalize vs 2 = y2 at *
            generalize vs 3 = y3 at *
            generalize vs 4 = y4 at *
            generalize vs 5 = y5 at *
            generalize vs 6 = y6 at *
            generalize vs 7 = y7 at *
            have HF2 := Lib.hid (HF.out (by first | rfl | trivial))
            have HKW := Lib.hid (hK.out.trans HKE.out)
            go_wp2_with fail
            go_ret
            exact ⟨by rw [HF2.out]; rfl, HKW.out⟩
        | true =>
          go_wp2_with fail
          refine wp_region_stage [16, 17, 18, 19, 20, 21, 22, 23, 24] [[], [], [0, 1], [2], [], [], [4, 5], [6], [3, 7]] [] [0, 0, 0, 0, 0, 0, 0, 0, 0] [] (fun i v _ => equalT b1 o1 n q b2 o2 m' q2 k x1 x3 y1 y3 x2 y2 i v) (fun w w' => Keeps w w') (fun _ _ w' => Keeps wr w') (by kernel_rfl) (by kernel_rfl) (by kernel_rfl) (by kernel_rfl) (by kernel_rfl) (by kernel_rfl) (by kernel_rfl) ?_ ?_ ?_ ?_ ?_ ?_ ?_
          · exact fun i v w w' c h => h
          · exact fun w => keeps_refl w
          · exact fun i s vs w _ h => h
          · refine ⟨?_, ?_, ?_, ?_, ?_, ?_, ?_, ?_, ?_, trivial⟩
            · exact fun g b h => by (cases h)
            · exact fun g b h => by (cases h)
            · exact fun g b h => by (cases h)
            · exact fun g b h => by (cases h)
            · exact fun g b h => by (cases h)
            · exact fun g b h => by (cases h)
            · exact fun g b h => by (cases h)
            · exact fun g b h => by (cases h)
            · exact fun g b h => by (cases h)
          · exact fun _ _ => keeps_refl wr
          · refine ⟨?_, ?_, ?_, ?_, ?_, ?_, ?_, ?_, ?_, trivial⟩
            · intro _ a w1 vs hI ho hn hu K hK
              have e0 : a.tmps[0]? = some (.slice (some ⟨b1, o1, none⟩) n q) := ho 0 rfl
              clear hn ho hu
              go_simp
              exact hK _ _ (keeps_refl _) hI rfl
            · intro _ a w1 vs hI ho hn hu K hK
              have e5 : a.tmps[5]? = some (.int .i64 (k : Int)) := ho 5 rfl
              clear hn ho hu
              go_simp
              exact hK _ _ (keeps_refl _) hI rfl
            · intro _ a w1 vs hI ho hn hu K hK
              obtain ⟨e16, g16⟩ : a.tmps[16]? = some (vs 0) ∧ vs 0 = .slice (some ⟨b1, o1, none⟩) n q := hn 0 (by decide)
              rw [g16] at e16
              clear g16
              obtain ⟨e17, g17⟩ : a.tmps[17]? = some (vs 1) ∧ vs 1 = .int .i64 (k : Int) := hn 1 (by decide)
              rw [g17] at e17
              clear g17
              clear hn ho hu
              have i1 := HA.out.1
              have i2 := HA.out.2.1
              go_simp
              exact hK _ _ (keeps_refl _) hI rfl
            · intro _ a w1 vs hI ho hn hu K hK
              obtain ⟨e18, g18⟩ : a.tmps[18]? = some (vs 2) ∧ vs 2 = .pointer (some ⟨b1, o1 + k * 3, none⟩) := hn 2 (by decide)
              rw [g18] at e18
              clear g18
              clear hn ho hu
              have c0 := keeps_cell hI A0.out
              have c1 := keeps_cell hI A1.out
              have c2 := keeps_cell hI A2.out
              go_simp
              exact hK _ _ (keeps_refl _) hI rfl
            · intro _ a w1 vs hI ho hn hu K hK
              have e1 : a.tmps[1]? = some (.slice (some ⟨b2, o2, none⟩) m' q2) := ho 1 rfl
              clear hn ho hu
              go_simp
              exact hK _ _ (keeps_refl _) hI rfl
            · intro _ a w1 vs hI ho hn hu K hK
              have e5 : a.tmps[5]? = some (.int .i64 (k : Int)) := ho 5 rfl
              clear hn ho hu
              go_simp
              exact hK _ _ (keeps_refl _) hI rfl
            · intro _ a w1 vs hI ho hn hu K hK
              obtain ⟨e20, g20⟩ : a.tmps[20]? = some (vs 4) ∧ vs 4 = .slice (some ⟨b2, o2, none⟩) m' q2 := hn 4 (by decide)
              rw [g20] at e20
              clear g20
              obtain ⟨e21, g21⟩ : a.tmps[21]? = some (vs 5) ∧ vs 5 = .int .i64 (k : Int) := hn 5 (by decide)
              rw [g21] at e21
              clear g21
              clear hn ho hu
              have i1 := HA.out.1
              have i2 := HA.out.2.2
              go_simp
              exact hK _ _ (keeps_refl _) hI rfl
            · intro _ a w1 vs hI ho hn hu K hK
              obtain ⟨e22, g22⟩ : a.tmps[22]? = some (vs 6) ∧ vs 6 = .pointer (some ⟨b2, o2 + k * 3, none⟩) := hn 6 (by decide)
              rw [g22] at e22
              clear g22
              clear hn ho hu
              have c0 := keeps_cell hI C0.out
              have c1 := keeps_cell hI C1.out
              have c2 := keeps_cell hI C2.out
              go_simp
              exact hK _ _ (keeps_refl _) hI rfl
            · intro _ a w1 vs hI ho hn hu K hK
              obtain ⟨e19, g19⟩ : a.tmps[19]? = some (vs 3) ∧ vs 3 = .agg #[.string x1, .bool x2, .string x3] := hn 3 (by decide)
              rw [g19] at e19
              clear g19
              obtain ⟨e23, g23⟩ : a.tmps[23]? = some (vs 7) ∧ vs 7 = .agg #[.string y1, .bool y2, .string y3] := hn 7 (by decide)
              rw [g23] at e23
              clear g23
              clear hn ho hu
              have hne := HNE.out
              go_simp
              exact hK _ _ (keeps_refl _) hI rfl
          · intro vs wE hI hG
            have eL8 : vs 8 = .bool false := hG 8 (by decide)
            have HKE := Lib.hid hI
            clear hG hI
            simp only [setAll, Nat.zero_add, Nat.reduceAdd, List.setIfInBounds_toArray, List.set_cons_zero, List.set_cons_succ, eL8]
            clear eL8
            generalize vs 0 = y0 at *
            generalize vs 1 = y1 at *
            generalize vs 2 = y2 at *
            generalize vs 3 = y3 at *
            generalize vs 4 = y4 at *
            generalize vs 5 = y5 at *
            generalize vs 6 = y6 at *
            generalize vs 7 = y7 at *
            have HN3 := Lib.hid (HN2.out (by first | rfl | trivial))
            have HKW := Lib.hid (hK.out.trans HKE.out)
            go_wp2_with fail
            refine ⟨?_, by simp [intOf]; omega⟩
            first | exact ⟨k + 1, by omega, by go_num, HN3, HKW⟩ | ((repeat apply Exists.intro); exact ⟨⟨k + 1, by omega, by go_num, HN3, HKW⟩, rfl⟩)
      · obtain rfl : k = l.length := by omega
        have HT : Hid (sameF l m = true) := by
          show _ = _
          rw [HS.out]
          unfold sameTo
          rw [List.all_eq_true]
          intro i hi
          exact hN.out i (List.mem_range.1 hi)
        go_wp2_with fail
        go_ret
        exact ⟨by rw [HT.out]; rfl, hK.out⟩
  · have HS : Hid (sameF l m = false) := by show _ = _; unfold sameF; rw [decide_eq_false he]; rfl
    have g1 : ((l.length : Int) == (m.length : Int)) = false := beq_false_of_ne (by omega)
    have g2 : decide ((l.length : Int) = (m.length : Int)) = false := decide_eq_false (by omega)
    have g3 : (l.length == m.length) = false := beq_false_of_ne he
    clear he
    go_enter Tryd.func66, Tryd.ntmps66
    go_wp2_with fail
    go_ret
    exact ⟨by rw [HS.out]; rfl, keeps_refl _⟩
def rsameF (b1 o1 n q b2 o2 m q2 k : Nat) (x1 x3 y1 y3 : ByteArray) (x2 y2 : Bool) : Nat → Value → Prop
  | i, v => v = ([.slice (some ⟨b1, o1, none⟩) n q, .int .i64 (k : Int), .pointer (some ⟨b1, o1 + k * 3, none⟩), .agg #[.string x1, .bool x2, .string x3], .slice (some ⟨b2, o2, none⟩) m q2, .int .i64 (k : Int), .pointer (some ⟨b2, o2 + k * 3, none⟩), .agg #[.string y1, .bool y2, .string y3], .bool true] : List Value).getD i undef
def rsameT (b1 o1 n q b2 o2 m q2 k : Nat) (x1 x3 y1 y3 : ByteArray) (x2 y2 : Bool) : Nat → Value → Prop
  | i, v => v = ([.slice (some ⟨b1, o1, none⟩) n q, .int .i64 (k : Int), .pointer (some ⟨b1, o1 + k * 3, none⟩), .agg #[.string x1, .bool x2, .string x3], .slice (some ⟨b2, o2, none⟩) m q2, .int .i64 (k : Int), .pointer (some ⟨b2, o2 + k * 3, none⟩), .agg #[.string y1, .bool y2, .string y3], .bool false] : List Value).getD i undef
set_option maxRecDepth 100000 in
set_option maxHeartbeats 4000000 in
theorem rsame_any (v u : Value) (l m : List FileR) (w : World) (h : FilesAt w.heap v l) (hm : FilesAt w.heap u m) : Calls Tryd.prog 41 #[v, u] w fun e w' => e = .returned (.bool (sameF l m)) ∧ Keeps w w' := by
  obtain ⟨p, q, rfl⟩ := rec_shape h
  obtain ⟨p2, q2, rfl⟩ := rec_shape hm
  have hl63 : l.length ≤ 9223372036854775807 := let ⟨_, _, _, x, _⟩ := h; x
  have hm63 : m.length ≤ 9223372036854775807 := let ⟨_, _, _, x, _⟩ := hm; x
  have H := Lib.hid h
  have HM := Lib.hid hm
  clear h hm
  by_cases he : l.length = m.length
  · have HS : Hid (sameF l m = sameTo l m l.length) := by show _ = _; unfold sameF; rw [decide_eq_true he]; rfl
    have g1 : ((l.length : Int) == (m.length : Int)) = true := by rw [beq_iff_eq]; omega
    have g2 : decide ((l.length : Int) = (m.length : Int)) = true := decide_eq_true (by omega)
    have g3 : (l.length == m.length) = true := by rw [beq_iff_eq]; exact he
    have HE := Lib.hid he
    clear he
    go_enter Tryd.func41, Tryd.ntmps41
    go_wp2_with fail
    clear g1 g2 g3
    generalize ((l.length : Int) != (m.length : Int)) = bb
    go_loopw [5] (fun i wr => ∃ k : Nat, k ≤ l.length ∧ i = .int .i64 k ∧ Hid (∀ j, j < k → fEq (fAt l j) (fAt m j) = true) ∧ Hid (Keeps w wr)) (fun i _ => l.length - (intOf i).toNat)
    case atStart => exact ⟨0, by omega, rfl, fun j h => absurd h (by omega), keeps_refl _⟩
    case round =>
      obtain ⟨k, hk, rfl, hN, hK⟩ := hrel
      by_cases hlt : k < l.length
      · have hlt64 : (k : Int) < (l.length : Int) := by omega
        have HA : Hid ((0 : Int) ≤ (k : Int) ∧ (k : Int) < (l.length : Int) ∧ (k : Int) < (m.length : Int)) := by have := HE.out; exact ⟨by omega, by omega, by omega⟩
        obtain ⟨b1, o1, rfl, _, a0, a1, a2⟩ := file_cell (RecAt.keeps H.out hK.out) hlt
        obtain ⟨b2, o2, rfl, _, c0, c1, c2⟩ := file_cell (RecAt.keeps HM.out hK.out) (i := k) (by have := HE.out; omega)
        have HN2 : Hid (fEq (fAt l k) (fAt m k) = true → ∀ j, j < k + 1 → fEq (fAt l j) (fAt m j) = true) := fun e j hj => by
          by_cases e2 : j = k
          · subst e2; exact e
          · exact hN.out j (by omega)
        have HF : Hid (fEq (fAt l k) (fAt m k) = false → sameF l m = false) := fun e => by
          rw [HS.out]
          unfold sameTo
          rw [List.all_eq_false]
          exact ⟨k, List.mem_range.2 hlt, by rw [e]; simp⟩
        have HNE := Lib.hid (run_fNe (fAt l k) (fAt m k))
        generalize fEq (fAt l k) (fAt m k) = y at *
        generalize (fAt l k).p = x1 at *
        generalize (fAt l k).d = x2 at *
        generalize (fAt l k).t = x3 at *
        generalize (fAt m k).p = y1 at *
        generalize (fAt m k).d = y2 at *
        generalize (fAt m k).t = y3 at *
        have A0 := Lib.hid a0
        have A1 := Lib.hid a1
        have A2 := Lib.hid a2
        have C0 := Lib.hid c0
        have C1 := Lib.hid c1
        have C2 := Lib.hid c2
        clear a0 a1 a2 c0 c1 c2
        generalize l.length = n at *
        generalize m.length = m' at *
        cases y with
        | false =>
          go_wp2_with fail
          refine wp_region_stage [17, 18, 19, 20, 21, 22, 23, 24, 25] [[], [], [0, 1], [2], [], [], [4, 5], [6], [3, 7]] [] [0, 0, 0, 0, 0, 0, 0, 0, 0] [] (fun i v _ => rsameF b1 o1 n q b2 o2 m' q2 k x1 x3 y1 y3 x2 y2 i v) (fun w w' => Keeps w w') (fun _ _ w' => Keeps wr w') (by kernel_rfl) (by kernel_rfl) (by kernel_rfl) (by kernel_rfl) (by kernel_rfl) (by kernel_rfl) (by kernel_rfl) ?_ ?_ ?_ ?_ ?_ ?_ ?_
          · exact fun i v w w' c h => h
          · exact fun w => keeps_refl w
          · exact fun i s vs w _ h => h
          · refine ⟨?_, ?_, ?_, ?_, ?_, ?_, ?_, ?_, ?_, trivial⟩
            · exact fun g b h => by (cases h)
            · exact fun g b h => by (cases h)
            · exact fun g b h => by (cases h)
            · exact fun g b h => by (cases h)
            · exact fun g b h => by (cases h)
            · exact fun g b h => by (cases h)
            · exact fun g b h => by (cases h)
            · exact fun g b h => by (cases h)
            · exact fun g b h => by (cases h)
          · exact fun _ _ => keeps_refl wr
          · refine ⟨?_, ?_, ?_, ?_, ?_, ?_, ?_, ?_, ?_, trivial⟩
            · intro _ a w1 vs hI ho hn hu K hK
              have e0 : a.tmps[0]? = some (.slice (some ⟨b1, o1, none⟩) n q) := ho 0 rfl
              clear hn ho hu
              go_simp
              exact hK _ _ (keeps_refl _) hI rfl
            · intro _ a w1 vs hI ho hn hu K hK
              have e5 : a.tmps[5]? = some (.int .i64 (k : Int)) := ho 5 rfl
              clear hn ho hu
              go_simp
              exact hK _ _ (keeps_refl _) hI rfl
            · intro _ a w1 vs hI ho hn hu K hK
              obtain ⟨e17, g17⟩ : a.tmps[17]? = some (vs 0) ∧ vs 0 = .slice (some ⟨b1, o1, none⟩) n q := hn 0 (by decide)
              rw [g17] at e17
              clear g17
              obtain ⟨e18, g18⟩ : a.tmps[18]? = some (vs 1) ∧ vs 1 = .int .i64 (k : Int) := hn 1 (by decide)
              rw [g18] at e18
              clear g18
              clear hn ho hu
              have i1 := HA.out.1
              have i2 := HA.out.2.1
              go_simp
              exact hK _ _ (keeps_refl _) hI rfl
            · intro _ a w1 vs hI ho hn hu K hK
              obtain ⟨e19, g19⟩ : a.tmps[19]? = some (vs 2) ∧ vs 2 = .pointer (some ⟨b1, o1 + k * 3, none⟩) := hn 2 (by decide)
              rw [g19] at e19
              clear g19
              clear hn ho hu
              have c0 := keeps_cell hI A0.out
              have c1 := keeps_cell hI A1.out
              have c2 := keeps_cell hI A2.out
              go_simp
              exact hK _ _ (keeps_refl _) hI rfl
            · intro _ a w1 vs hI ho hn hu K hK
              have e1 : a.tmps[1]? = some (.slice (some ⟨b2, o2, none⟩) m' q2) := ho 1 rfl
              clear hn ho hu
              go_simp
              exact hK _ _ (keeps_refl _) hI rfl
            · intro _ a w1 vs hI ho hn hu K hK
              have e5 : a.tmps[5]? = some (.int .i64 (k : Int)) := ho 5 rfl
              clear hn ho hu
              go_simp
              exact hK _ _ (keeps_refl _) hI rfl
            · intro _ a w1 vs hI ho hn hu K hK
              obtain ⟨e21, g21⟩ : a.tmps[21]? = some (vs 4) ∧ vs 4 = .slice (some ⟨b2, o2, none⟩) m' q2 := hn 4 (by decide)
              rw [g21] at e21
              clear g21
              obtain ⟨e22, g22⟩ : a.tmps[22]? = some (vs 5) ∧ vs 5 = .int .i64 (k : Int) := hn 5 (by decide)
              rw [g22] at e22
              clear g22
              clear hn ho hu
              have i1 := HA.out.1
              have i2 := HA.out.2.2
              go_simp
              exact hK _ _ (keeps_refl _) hI rfl
            · intro _ a w1 vs hI ho hn hu K hK
              obtain ⟨e23, g23⟩ : a.tmps[23]? = some (vs 6) ∧ vs 6 = .pointer (some ⟨b2, o2 + k * 3, none⟩) := hn 6 (by decide)
              rw [g23] at e23
              clear g23
              clear hn ho hu
              have c0 := keeps_cell hI C0.out
              have c1 := keeps_cell hI C1.out
              have c2 := keeps_cell hI C2.out
              go_simp
              exact hK _ _ (keeps_refl _) hI rfl
            · intro _ a w1 vs hI ho hn hu K hK
              obtain ⟨e20, g20⟩ : a.tmps[20]? = some (vs 3) ∧ vs 3 = .agg #[.string x1, .bool x2, .string x3] := hn 3 (by decide)
              rw [g20] at e20
              clear g20
              obtain ⟨e24, g24⟩ : a.tmps[24]? = some (vs 7) ∧ vs 7 = .agg #[.string y1, .bool y2, .string y3] := hn 7 (by decide)
              rw [g24] at e24
              clear g24
              clear hn ho hu
              have hne := HNE.out
              go_simp
              exact hK _ _ (keeps_refl _) hI rfl
          · intro vs wE hI hG
            have eL8 : vs 8 = .bool true := hG 8 (by decide)
            have HKE := Lib.hid hI
            clear hG hI
            simp only [setAll, Nat.zero_add, Nat.reduceAdd, List.setIfInBounds_toArray, List.set_cons_zero, List.set_cons_succ, eL8]
            clear eL8
            generalize vs 0 = y0 at *
            generalize vs 1 = y1 at *
            generalize vs 2 = y2 at *
            generalize vs 3 = y3 at *
            generalize vs 4 = y4 at *
            generalize vs 5 = y5 at *
            generalize vs 6 = y6 at *
            generalize vs 7 = y7 at *
            have HF2 := Lib.hid (HF.out (by first | rfl | trivial))
            have HKW := Lib.hid (hK.out.trans HKE.out)
            go_wp2_with fail
            go_ret
            exact ⟨by rw [HF2.out]; rfl, HKW.out⟩
        | true =>
          go_wp2_with fail
          refine wp_region_stage [17, 18, 19, 20, 21, 22, 23, 24, 25] [[], [], [0, 1], [2], [], [], [4, 5], [6], [3, 7]] [] [0, 0, 0, 0, 0, 0, 0, 0, 0] [] (fun i v _ => rsameT b1 o1 n q b2 o2 m' q2 k x1 x3 y1 y3 x2 y2 i v) (fun w w' => Keeps w w') (fun _ _ w' => Keeps wr w') (by kernel_rfl) (by kernel_rfl) (by kernel_rfl) (by kernel_rfl) (by kernel_rfl) (by kernel_rfl) (by kernel_rfl) ?_ ?_ ?_ ?_ ?_ ?_ ?_
          · exact fun i v w w' c h => h
          · exact fun w => keeps_refl w
          · exact fun i s vs w _ h => h
          · refine ⟨?_, ?_, ?_, ?_, ?_, ?_, ?_, ?_, ?_, trivial⟩
            · exact fun g b h => by (cases h)
            · exact fun g b h => by (cases h)
            · exact fun g b h => by (cases h)
            · exact fun g b h => by (cases h)
            · exact fun g b h => by (cases h)
            · exact fun g b h => by (cases h)
            · exact fun g b h => by (cases h)
            · exact fun g b h => by (cases h)
            · exact fun g b h => by (cases h)
          · exact fun _ _ => keeps_refl wr
          · refine ⟨?_, ?_, ?_, ?_, ?_, ?_, ?_, ?_, ?_, trivial⟩
            · intro _ a w1 vs hI ho hn hu K hK
              have e0 : a.tmps[0]? = some (.slice (some ⟨b1, o1, none⟩) n q) := ho 0 rfl
              clear hn ho hu
              go_simp
              exact hK _ _ (keeps_refl _) hI rfl
            · intro _ a w1 vs hI ho hn hu K hK
              have e5 : a.tmps[5]? = some (.int .i64 (k : Int)) := ho 5 rfl
              clear hn ho hu
              go_simp
              exact hK _ _ (keeps_refl _) hI rfl
            · intro _ a w1 vs hI ho hn hu K hK
              obtain ⟨e17, g17⟩ : a.tmps[17]? = some (vs 0) ∧ vs 0 = .slice (some ⟨b1, o1, none⟩) n q := hn 0 (by decide)
              rw [g17] at e17
              clear g17
              obtain ⟨e18, g18⟩ : a.tmps[18]? = some (vs 1) ∧ vs 1 = .int .i64 (k : Int) := hn 1 (by decide)
              rw [g18] at e18
              clear g18
              clear hn ho hu
              have i1 := HA.out.1
              have i2 := HA.out.2.1
              go_simp
              exact hK _ _ (keeps_refl _) hI rfl
            · intro _ a w1 vs hI ho hn hu K hK
              obtain ⟨e19, g19⟩ : a.tmps[19]? = some (vs 2) ∧ vs 2 = .pointer (some ⟨b1, o1 + k * 3, none⟩) := hn 2 (by decide)
              rw [g19] at e19
              clear g19
              clear hn ho hu
              have c0 := keeps_cell hI A0.out
              have c1 := keeps_cell hI A1.out
              have c2 := keeps_cell hI A2.out
              go_simp
              exact hK _ _ (keeps_refl _) hI rfl
            · intro _ a w1 vs hI ho hn hu K hK
              have e1 : a.tmps[1]? = some (.slice (some ⟨b2, o2, none⟩) m' q2) := ho 1 rfl
              clear hn ho hu
              go_simp
              exact hK _ _ (keeps_refl _) hI rfl
            · intro _ a w1 vs hI ho hn hu K hK
              have e5 : a.tmps[5]? = some (.int .i64 (k : Int)) := ho 5 rfl
              clear hn ho hu
              go_simp
              exact hK _ _ (keeps_refl _) hI rfl
            · intro _ a w1 vs hI ho hn hu K hK
              obtain ⟨e21, g21⟩ : a.tmps[21]? = some (vs 4) ∧ vs 4 = .slice (some ⟨b2, o2, none⟩) m' q2 := hn 4 (by decide)
              rw [g21] at e21
              clear g21
              obtain ⟨e22, g22⟩ : a.tmps[22]? = some (vs 5) ∧ vs 5 = .int .i64 (k : Int) := hn 5 (by decide)
              rw [g22] at e22
              clear g22
              clear hn ho hu
              have i1 := HA.out.1
              have i2 := HA.out.2.2
              go_simp
              exact hK _ _ (keeps_refl _) hI rfl
            · intro _ a w1 vs hI ho hn hu K hK
              obtain ⟨e23, g23⟩ : a.tmps[23]? = some (vs 6) ∧ vs 6 = .pointer (some ⟨b2, o2 + k * 3, none⟩) := hn 6 (by decide)
              rw [g23] at e23
              clear g23
              clear hn ho hu
              have c0 := keeps_cell hI C0.out
              have c1 := keeps_cell hI C1.out
              have c2 := keeps_cell hI C2.out
              go_simp
              exact hK _ _ (keeps_refl _) hI rfl
            · intro _ a w1 vs hI ho hn hu K hK
              obtain ⟨e20, g20⟩ : a.tmps[20]? = some (vs 3) ∧ vs 3 = .agg #[.string x1, .bool x2, .string x3] := hn 3 (by decide)
              rw [g20] at e20
              clear g20
              obtain ⟨e24, g24⟩ : a.tmps[24]? = some (vs 7) ∧ vs 7 = .agg #[.string y1, .bool y2, .string y3] := hn 7 (by decide)
              rw [g24] at e24
              clear g24
              clear hn ho hu
              have hne := HNE.out
              go_simp
              exact hK _ _ (keeps_refl _) hI rfl
          · intro vs wE hI hG
            have eL8 : vs 8 = .bool false := hG 8 (by decide)
            have HKE := Lib.hid hI
            clear hG hI
            simp only [setAll, Nat.zero_add, Nat.reduceAdd, List.setIfInBounds_toArray, List.set_cons_zero, List.set_cons_succ, eL8]
            clear eL8
            generalize vs 0 = y0 at *
            generalize vs 1 = y1 at *
            generalize vs 2 = y2 at *
            generalize vs 3 = y3 at *
            generalize vs 4 = y4 at *
            generalize vs 5 = y5 at *
            generalize vs 6 = y6 at *
            generalize vs 7 = y7 at *
            have HN3 := Lib.hid (HN2.out (by first | rfl | trivial))
            have HKW := Lib.hid (hK.out.trans HKE.out)
            go_wp2_with fail
            refine ⟨?_, by simp [intOf]; omega⟩
            first | exact ⟨k + 1, by omega, by go_num, HN3, HKW⟩ | ((repeat apply Exists.intro); exact ⟨⟨k + 1, by omega, by go_num, HN3, HKW⟩, rfl⟩)
      · obtain rfl : k = l.length := by omega
        have HT : Hid (sameF l m = true) := by
          show _ = _
          rw [HS.out]
          unfold sameTo
          rw [List.all_eq_true]
          intro i hi
          exact hN.out i (List.mem_range.1 hi)
        go_wp2_with fail
        go_ret
        exact ⟨by rw [HT.out]; rfl, hK.out⟩
  · have HS : Hid (sameF l m = false) := by show _ = _; unfold sameF; rw [decide_eq_false he]; rfl
    have g1 : ((l.length : Int) == (m.length : Int)) = false := beq_false_of_ne (by omega)
    have g2 : decide ((l.length : Int) = (m.length : Int)) = false := decide_eq_false (by omega)
    have g3 : (l.length == m.length) = false := beq_false_of_ne he
    clear he
    go_enter Tryd.func41, Tryd.ntmps41
    go_wp2_with fail
    go_ret
    exact ⟨by rw [HS.out]; rfl, keeps_refl _⟩
set_option maxRecDepth 100000 in
set_option maxHeartbeats 4000000 in
theorem same_any (v u : Value) (l m : List FileR) (w : World) (h : FilesAt w.heap v l) (hm : FilesAt w.heap u m) : Calls Tryd.prog 40 #[v, u] w fun e w' => e = .returned (.bool (sameF l m)) ∧ Keeps w w' := by
  obtain ⟨p, q, rfl⟩ := rec_shape h
  obtain ⟨p2, q2, rfl⟩ := rec_shape hm
  go_enter Tryd.func40, Tryd.ntmps40
  go_wp2_with fail
  refine Calls.mono (equal_any _ _ l m _ h hm) ?_
  rintro e w' ⟨rfl, hk⟩
  go_wp2_with fail
  go_ret
  exact ⟨rfl, hk⟩
end Go.Proofs.YtdpfanifagfciaaDoor
