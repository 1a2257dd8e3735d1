/- The walk of what package strongboxlaw05 asks first: works. -/
import Derived.Test.YtllfhaocdknejaaDoorCodeErr
import Derived.Test.YtllfhaocdknejaaDoorStageF
namespace Go.Proofs.YtllfhaocdknejaaDoor
open Go.RowKit
attribute [local go_sem ↓] Go.wp_at_zero Go.wp_at_succ
theorem ints1_new (w : World) : SeqAt IsInt (w.alloc (.cells #[.int .i64 0] 3)).heap (.slice (some ⟨w.heap.size, 0, none⟩) 1 1) [0] :=
  ⟨_, 1, rfl, by decide, fun i hi => ⟨w.heap.size, 0, .int .i64 0, rfl, by
    have : i = 0 := by simp at hi; exact hi
    subst this
    have := World.cell?_alloc_new w #[.int .i64 0] 3 0
    rw [cell_of] at this; exact this, by
    have : i = 0 := by simp at hi; exact hi
    subst this; rfl⟩⟩
theorem ints2_new (w : World) : SeqAt IsInt (w.alloc (.cells #[.int .i64 0, .int .i64 0] 3)).heap (.slice (some ⟨w.heap.size, 0, none⟩) 2 2) [0, 0] :=
  ⟨_, 2, rfl, by decide, fun i hi => ⟨w.heap.size, 0, .int .i64 0, rfl, by
    have : i = 0 ∨ i = 1 := by simp at hi; omega
    have e : (w.alloc (.cells #[.int .i64 0, .int .i64 0] 3)).cell? ⟨w.heap.size, 0 + i, none⟩ = some (.int .i64 0) := by
      rcases this with rfl | rfl <;> exact World.cell?_alloc_new _ _ _ _
    rw [cell_of] at e; exact e, by
    have : i = 0 ∨ i = 1 := by simp at hi; omega
    rcases this with rfl | rfl <;> rfl⟩⟩
theorem texts_take {w : World} {p : Option Addr} {n c : Nat} {l : List ByteArray} (h : TextsAt w.heap (.slice p n c) l) {m : Nat} (hm : m ≤ l.length) : TextsAt w.heap (.slice p m c) (l.take m) := by
  obtain ⟨a, cap, e, hl, hel⟩ := h
  injection e with e1 e2 e3
  subst e1 e3
  refine ⟨p, c, by rw [List.length_take, Nat.min_eq_left hm], by rw [List.length_take]; omega, fun i hi => ?_⟩
  rw [List.length_take] at hi
  obtain ⟨b, off, u, e4, e5, e6⟩ := hel i (by omega)
  exact ⟨b, off, u, e4, e5, by rw [List.getElem_take]; exact e6⟩
def abcL : List ByteArray := [⟨#[0, 0, 0, 0, 0, 0]⟩, ⟨#[0, 3, 97, 98, 99, 0]⟩, ⟨#[0, 1, 212, 213, 33, 0]⟩]
theorem enc_abc : encC 2 3 (⟨#[97, 98, 99]⟩ : ByteArray).data.toList = (abcL, 0) := by kernel_rfl
theorem enc_q : encC 1 1 (⟨#[113]⟩ : ByteArray).data.toList = ([⟨#[0, 0, 0, 0, 0, 0, 0, 1, 113]⟩], 0) := by kernel_rfl
theorem size_abc : sizeC 2 3 3 = (6, 0) := by kernel_rfl
theorem hand_one : handE 2 3 [0] 1 = 54 := by kernel_rfl
theorem hand_two : handE 2 3 [0, 0] 2 = 1 := by kernel_rfl
theorem in_zero : ∀ x ∈ ([0] : List Int), inI x := by intro x hx; simp at hx; subst hx; unfold inI; omega
theorem in_zero2 : ∀ x ∈ ([0, 0] : List Int), inI x := by intro x hx; simp at hx; subst hx; unfold inI; omega
def wk6 (b0 o0 q : Nat) : Nat → Value → World → Prop
  | 1, v, w => SeqAt IsInt w.heap v [0]
  | i, v, _ => v = ([.agg #[.int .i64 2, .int .i64 3], undef, .slice (some ⟨b0, o0, none⟩) 3 q, .slice (some ⟨b0, o0, none⟩) 1 q, .tuple #[.string ⟨#[]⟩, .int .i64 54], .tuple #[.string ⟨#[]⟩, .int .i64 54], .string ⟨#[]⟩, .int .i64 54, .string ⟨#[]⟩, .int .i64 54] : List Value).getD i undef
theorem wk6_keeps {b0 o0 q : Nat} (i : Nat) (v : Value) (w w' : World) (c : Keeps w w') (h : wk6 b0 o0 q i v w) : wk6 b0 o0 q i v w' := by
  match i, h with
  | 0, h => exact h
  | 1, h => exact SeqAt.keeps h c
  | 2, h => exact h
  | 3, h => exact h
  | 4, h => exact h
  | 5, h => exact h
  | 6, h => exact h
  | 7, h => exact h
  | 8, h => exact h
  | 9, h => exact h
  | _ + 10, h => exact h
def wk7 (b0 o0 q : Nat) : Nat → Value → World → Prop
  | 1, v, w => SeqAt IsInt w.heap v [0, 0]
  | i, v, _ => v = ([.agg #[.int .i64 2, .int .i64 3], undef, .slice (some ⟨b0, o0, none⟩) 3 q, .slice (some ⟨b0, o0, none⟩) 2 q, .tuple #[.string ⟨#[]⟩, .int .i64 1], .tuple #[.string ⟨#[]⟩, .int .i64 1], .string ⟨#[]⟩, .int .i64 1, .string ⟨#[]⟩, .int .i64 1] : List Value).getD i undef
theorem wk7_keeps {b0 o0 q : Nat} (i : Nat) (v : Value) (w w' : World) (c : Keeps w w') (h : wk7 b0 o0 q i v w) : wk7 b0 o0 q i v w' := by
  match i, h with
  | 0, h => exact h
  | 1, h => exact SeqAt.keeps h c
  | 2, h => exact h
  | 3, h => exact h
  | 4, h => exact h
  | 5, h => exact h
  | 6, h => exact h
  | 7, h => exact h
  | 8, h => exact h
  | 9, h => exact h
  | _ + 10, h => exact h
set_option maxRecDepth 100000 in
set_option maxHeartbeats 4000000 in
theorem works_any (w : World) : Calls Tryd.prog 13 #[] w fun e w' => e = .returned (.bool true) ∧ Keeps w w' := by
  have HC0 : Hid (∀ wx, Keeps (w.alloc (.cells #[.int .i64 2, .int .i64 3] 23)) wx → wx.cell? ⟨w.heap.size, 0, none⟩ = some (.int .i64 2) ∧ wx.cell? ⟨w.heap.size, 1, none⟩ = some (.int .i64 3)) := fun wx hx => ⟨keeps_cell hx (World.cell?_alloc_new _ _ _ _), keeps_cell hx (World.cell?_alloc_new _ _ _ _)⟩
  go_enter Tryd.func13, Tryd.ntmps13
  go_wp2_with fail
  refine Calls.mono (cencodeG_any 2 3 ⟨#[97, 98, 99]⟩ _ (by decide)) ?_
  rintro e wa ⟨v, rfl, hg, hk⟩
  rw [enc_abc] at hg ⊢
  obtain ⟨hs, pv, nv, qv, rfl, hq⟩ := hg
  have hl : nv = 3 := by obtain ⟨_, _, e, _⟩ := hs; cases e; rfl
  subst hl
  have HT := Lib.hid hs.at_
  have HKA := Lib.hid hk
  obtain ⟨b0, o0, rfl, d0⟩ := text_cellH HT.out (i := 0) (by decide)
  obtain ⟨b1, o1, e1, d1⟩ := text_cellH HT.out (i := 1) (by decide)
  cases e1
  obtain ⟨c0, c1⟩ := HC0.out _ hk
  have DA0 := Lib.hid d0
  have DA1 := Lib.hid d1
  have HQ := Lib.hid hq
  clear hs hk d0 d1 hq
  go_wp2_with fail
  refine Calls.mono (csize_any 2 3 3 _ (by decide) (by decide)) ?_
  rintro e wb ⟨rfl, hk⟩
  rw [size_abc]
  have d0 : wb.cell? ⟨b0, o0, none⟩ = some (.string ⟨#[0, 0, 0, 0, 0, 0]⟩) := keeps_cell hk DA0.out
  have d1 : wb.cell? ⟨b0, o0 + 1, none⟩ = some (.string ⟨#[0, 3, 97, 98, 99, 0]⟩) := keeps_cell hk DA1.out
  have HKB := Lib.hid (HKA.out.trans hk)
  have HTB := Lib.hid (SeqAt.keeps HT.out hk)
  have HKb := HKB
  clear hk c0 c1
  have HKwb : Hid (Keeps (w.alloc (.cells #[.int .i64 2, .int .i64 3] 23)) wb) := HKB.out
  have D0 := Lib.hid (HC0.out _ HKB.out).1
  have D1 := Lib.hid (HC0.out _ HKB.out).2
  have HD1 : Hid (∀ (wx : World) (vx : Value), Keeps wb wx → SeqAt IsInt wx.heap vx [0] → Calls Tryd.prog 9 #[.agg #[.int .i64 2, .int .i64 3], vx, .slice (some ⟨b0, o0, none⟩) 1 qv] wx fun e w' => e = .returned (.tuple #[.string ⟨#[]⟩, .int .i64 54]) ∧ Keeps wx w') := fun wx vx hx hv =>
    decode_err 2 3 vx _ [0] (abcL.take 1) wx 54 hv (SeqAt.keeps (texts_take HTB.out (m := 1) (by decide)) hx) in_zero hand_one (by decide)
  have HD2 : Hid (∀ (wx : World) (vx : Value), Keeps wb wx → SeqAt IsInt wx.heap vx [0, 0] → Calls Tryd.prog 9 #[.agg #[.int .i64 2, .int .i64 3], vx, .slice (some ⟨b0, o0, none⟩) 2 qv] wx fun e w' => e = .returned (.tuple #[.string ⟨#[]⟩, .int .i64 1]) ∧ Keeps wx w') := fun wx vx hx hv =>
    decode_err 2 3 vx _ [0, 0] (abcL.take 2) wx 1 hv (SeqAt.keeps (texts_take HTB.out (m := 2) (by decide)) hx) in_zero2 hand_two (by decide)
  obtain ⟨q, rfl⟩ : ∃ q, q = qv := ⟨_, rfl⟩
  go_wp2_with fail
  refine wp_region_stage [51, 52, 53, 54, 55, 50, 56, 57, 6, 7] [[], [], [], [2], [0, 1, 3], [4], [5], [5], [6], [7]] [] [0, 0, 0, 0, 0, 0, 0, 0, 0, 0] [] (wk6 b0 o0 q) (fun w w' => Keeps w w') (fun _ _ w' => Keeps wb w') (by kernel_rfl) (by kernel_rfl) (by kernel_rfl) (by kernel_rfl) (by kernel_rfl) (by kernel_rfl) (by kernel_rfl) ?_ ?_ ?_ ?_ ?_ ?_ ?_
  · exact fun i v w w' c h => wk6_keeps i v w w' c h
  · exact fun w => keeps_refl w
  · exact fun i s vs w _ h => h
  · refine ⟨?_, ?_, ?_, ?_, ?_, ?_, ?_, ?_, ?_, ?_, trivial⟩
    · exact fun g b h => by (cases h)
    · exact fun g b h => by (cases h)
    · exact fun g b h => by (cases h)
    · exact fun g b h => by (cases h)
    · exact fun g b h => by (cases h)
    · exact fun g b h => by (cases h)
    · exact fun g b h => by (cases h)
    · exact fun g b h => by (cases h)
    · exact fun g b h => by (cases h)
    · exact fun g b h => by (cases h)
  · exact fun _ _ => keeps_refl wb
  · refine ⟨?_, ?_, ?_, ?_, ?_, ?_, ?_, ?_, ?_, ?_, trivial⟩
    · intro _ a w1 vs hI ho hn hu K hK
      have e1 : a.tmps[1]? = some (.pointer (some ⟨w.heap.size, 0, none⟩)) := ho 1 rfl
      clear hn ho hu
      have c0 := keeps_cell hI D0.out
      have c1 := keeps_cell hI D1.out
      go_simp
      exact hK _ _ (keeps_refl _) hI rfl
    · intro _ a w1 vs hI ho hn hu K hK
      clear hn ho hu
      go_simp
      exact hK _ _ (kal _ _) (Keeps.trans hI (kal _ _)) (ints1_new _)
    · intro _ a w1 vs hI ho hn hu K hK
      have e2 : a.tmps[2]? = some (.slice (some ⟨b0, o0, none⟩) 3 q) := ho 2 rfl
      clear hn ho hu
      go_simp
      exact hK _ _ (keeps_refl _) hI rfl
    · intro _ a w1 vs hI ho hn hu K hK
      obtain ⟨e53, g53⟩ : a.tmps[53]? = some (vs 2) ∧ vs 2 = .slice (some ⟨b0, o0, none⟩) 3 q := hn 2 (by decide)
      rw [g53] at e53
      clear g53
      clear hn ho hu
      have hq : (1 : Int) ≤ (q : Int) := Int.ofNat_le.2 (Nat.le_trans (by decide) HQ.out)
      go_simp
      exact hK _ _ (keeps_refl _) hI rfl
    · intro _ a w1 vs hI ho hn hu K hK
      obtain ⟨e51, g51⟩ : a.tmps[51]? = some (vs 0) ∧ vs 0 = .agg #[.int .i64 2, .int .i64 3] := hn 0 (by decide)
      rw [g51] at e51
      clear g51
      obtain ⟨e52, g52⟩ : a.tmps[52]? = some (vs 1) ∧ SeqAt IsInt w1.heap (vs 1) [0] := hn 1 (by decide)
      obtain ⟨e54, g54⟩ : a.tmps[54]? = some (vs 3) ∧ vs 3 = .slice (some ⟨b0, o0, none⟩) 1 q := hn 3 (by decide)
      rw [g54] at e54
      clear g54
      clear hn ho hu
      go_simp
      refine Calls.mono (HD1.out _ _ hI g52) ?_
      rintro e w' ⟨rfl, hk⟩
      go_simp
      exact hK _ _ hk (Keeps.trans hI hk) rfl
    · intro _ a w1 vs hI ho hn hu K hK
      obtain ⟨e55, g55⟩ : a.tmps[55]? = some (vs 4) ∧ vs 4 = .tuple #[.string ⟨#[]⟩, .int .i64 54] := hn 4 (by decide)
      rw [g55] at e55
      clear g55
      clear hn ho hu
      go_simp
      exact hK _ _ (keeps_refl _) hI rfl
    · intro _ a w1 vs hI ho hn hu K hK
      obtain ⟨e50, g50⟩ : a.tmps[50]? = some (vs 5) ∧ vs 5 = .tuple #[.string ⟨#[]⟩, .int .i64 54] := hn 5 (by decide)
      rw [g50] at e50
      clear g50
      clear hn ho hu
      go_simp
      exact hK _ _ (keeps_refl _) hI rfl
    · intro _ a w1 vs hI ho hn hu K hK
      obtain ⟨e50, g50⟩ : a.tmps[50]? = some (vs 5) ∧ vs 5 = .tuple #[.string ⟨#[]⟩, .int .i64 54] := hn 5 (by decide)
      rw [g50] at e50
      clear g50
      clear hn ho hu
      go_simp
      exact hK _ _ (keeps_refl _) hI rfl
    · intro _ a w1 vs hI ho hn hu K hK
      obtain ⟨e56, g56⟩ : a.tmps[56]? = some (vs 6) ∧ vs 6 = .string ⟨#[]⟩ := hn 6 (by decide)
      rw [g56] at e56
      clear g56
      clear hn ho hu
      go_simp
      exact hK _ _ (keeps_refl _) hI rfl
    · intro _ a w1 vs hI ho hn hu K hK
      obtain ⟨e57, g57⟩ : a.tmps[57]? = some (vs 7) ∧ vs 7 = .int .i64 54 := hn 7 (by decide)
      rw [g57] at e57
      clear g57
      clear hn ho hu
      go_simp
      exact hK _ _ (keeps_refl _) hI rfl
  · intro vs wE hI hG
    have HD2 := Lib.hid (fun wx vx hx hv => HD2.out wx vx (Keeps.trans hI hx) hv)
    have HKwc := Lib.hid (Keeps.trans HKwb.out hI)
    have h5 : vs 9 = .int .i64 54 := hG 9 (by decide)
    clear hG hI
    simp only [setAll, Nat.zero_add, Nat.reduceAdd, List.setIfInBounds_toArray, List.set_cons_zero, List.set_cons_succ, h5]
    clear h5
    generalize vs 0 = y0_wk6 at *
    generalize vs 1 = y1_wk6 at *
    generalize vs 2 = y2_wk6 at *
    generalize vs 3 = y3_wk6 at *
    generalize vs 4 = y4_wk6 at *
    generalize vs 5 = y5_wk6 at *
    generalize vs 6 = y6_wk6 at *
    generalize vs 7 = y7_wk6 at *
    generalize vs 8 = y8_wk6 at *
    obtain ⟨wc, rfl⟩ : ∃ x : World, x = wE := ⟨_, rfl⟩
    have D0 := Lib.hid (HC0.out _ HKwc.out).1
    have D1 := Lib.hid (HC0.out _ HKwc.out).2
    go_wp2_with fail
    refine wp_region_stage [59, 60, 61, 62, 63, 58, 64, 65, 8, 9] [[], [], [], [2], [0, 1, 3], [4], [5], [5], [6], [7]] [] [0, 0, 0, 0, 0, 0, 0, 0, 0, 0] [] (wk7 b0 o0 q) (fun w w' => Keeps w w') (fun _ _ w' => Keeps wc w') (by kernel_rfl) (by kernel_rfl) (by kernel_rfl) (by kernel_rfl) (by kernel_rfl) (by kernel_rfl) (by kernel_rfl) ?_ ?_ ?_ ?_ ?_ ?_ ?_
    · exact fun i v w w' c h => wk7_keeps i v w w' c h
    · exact fun w => keeps_refl w
    · exact fun i s vs w _ h => h
    · refine ⟨?_, ?_, ?_, ?_, ?_, ?_, ?_, ?_, ?_, ?_, trivial⟩
      · exact fun g b h => by (cases h)
      · exact fun g b h => by (cases h)
      · exact fun g b h => by (cases h)
      · exact fun g b h => by (cases h)
      · exact fun g b h => by (cases h)
      · exact fun g b h => by (cases h)
      · exact fun g b h => by (cases h)
      · exact fun g b h => by (cases h)
      · exact fun g b h => by (cases h)
      · exact fun g b h => by (cases h)
    · exact fun _ _ => keeps_refl wc
    · refine ⟨?_, ?_, ?_, ?_, ?_, ?_, ?_, ?_, ?_, ?_, trivial⟩
      · intro _ a w1 vs hI ho hn hu K hK
        have e1 : a.tmps[1]? = some (.pointer (some ⟨w.heap.size, 0, none⟩)) := ho 1 rfl
        clear hn ho hu
        have c0 := keeps_cell hI D0.out
        have c1 := keeps_cell hI D1.out
        go_simp
        exact hK _ _ (keeps_refl _) hI rfl
      · intro _ a w1 vs hI ho hn hu K hK
        clear hn ho hu
        go_simp
        exact hK _ _ (kal _ _) (Keeps.trans hI (kal _ _)) (ints2_new _)
      · intro _ a w1 vs hI ho hn hu K hK
        have e2 : a.tmps[2]? = some (.slice (some ⟨b0, o0, none⟩) 3 q) := ho 2 rfl
        clear hn ho hu
        go_simp
        exact hK _ _ (keeps_refl _) hI rfl
      · intro _ a w1 vs hI ho hn hu K hK
        obtain ⟨e61, g61⟩ : a.tmps[61]? = some (vs 2) ∧ vs 2 = .slice (some ⟨b0, o0, none⟩) 3 q := hn 2 (by decide)
        rw [g61] at e61
        clear g61
        clear hn ho hu
        have hq : (2 : Int) ≤ (q : Int) := Int.ofNat_le.2 (Nat.le_trans (by decide) HQ.out)
        go_simp
        exact hK _ _ (keeps_refl _) hI rfl
      · intro _ a w1 vs hI ho hn hu K hK
        obtain ⟨e59, g59⟩ : a.tmps[59]? = some (vs 0) ∧ vs 0 = .agg #[.int .i64 2, .int .i64 3] := hn 0 (by decide)
        rw [g59] at e59
        clear g59
        obtain ⟨e60, g60⟩ : a.tmps[60]? = some (vs 1) ∧ SeqAt IsInt w1.heap (vs 1) [0, 0] := hn 1 (by decide)
        obtain ⟨e62, g62⟩ : a.tmps[62]? = some (vs 3) ∧ vs 3 = .slice (some ⟨b0, o0, none⟩) 2 q := hn 3 (by decide)
        rw [g62] at e62
        clear g62
        clear hn ho hu
        go_simp
        refine Calls.mono (HD2.out _ _ hI g60) ?_
        rintro e w' ⟨rfl, hk⟩
        go_simp
        exact hK _ _ hk (Keeps.trans hI hk) rfl
      · intro _ a w1 vs hI ho hn hu K hK
        obtain ⟨e63, g63⟩ : a.tmps[63]? = some (vs 4) ∧ vs 4 = .tuple #[.string ⟨#[]⟩, .int .i64 1] := hn 4 (by decide)
        rw [g63] at e63
        clear g63
        clear hn ho hu
        go_simp
        exact hK _ _ (keeps_refl _) hI rfl
      · intro _ a w1 vs hI ho hn hu K hK
        obtain ⟨e58, g58⟩ : a.tmps[58]? = some (vs 5) ∧ vs 5 = .tuple #[.string ⟨#[]⟩, .int .i64 1] := hn 5 (by decide)
        rw [g58] at e58
        clear g58
        clear hn ho hu
        go_simp
        exact hK _ _ (keeps_refl _) hI rfl
      · intro _ a w1 vs hI ho hn hu K hK
        obtain ⟨e58, g58⟩ : a.tmps[58]? = some (vs 5) ∧ vs 5 = .tuple #[.string ⟨#[]⟩, .int .i64 1] := hn 5 (by decide)
        rw [g58] at e58
        clear g58
        clear hn ho hu
        go_simp
        exact hK _ _ (keeps_refl _) hI rfl
      · intro _ a w1 vs hI ho hn hu K hK
        obtain ⟨e64, g64⟩ : a.tmps[64]? = some (vs 6) ∧ vs 6 = .string ⟨#[]⟩ := hn 6 (by decide)
        rw [g64] at e64
        clear g64
        clear hn ho hu
        go_simp
        exact hK _ _ (keeps_refl _) hI rfl
      · intro _ a w1 vs hI ho hn hu K hK
        obtain ⟨e65, g65⟩ : a.tmps[65]? = some (vs 7) ∧ vs 7 = .int .i64 1 := hn 7 (by decide)
        rw [g65] at e65
        clear g65
        clear hn ho hu
        go_simp
        exact hK _ _ (keeps_refl _) hI rfl
    · intro vs wE hI hG
      have HKwd := Lib.hid (Keeps.trans HKwc.out hI)
      have h5 : vs 9 = .int .i64 1 := hG 9 (by decide)
      clear hG hI
      simp only [setAll, Nat.zero_add, Nat.reduceAdd, List.setIfInBounds_toArray, List.set_cons_zero, List.set_cons_succ, h5]
      clear h5
      generalize vs 0 = y0_wk7 at *
      generalize vs 1 = y1_wk7 at *
      generalize vs 2 = y2_wk7 at *
      generalize vs 3 = y3_wk7 at *
      generalize vs 4 = y4_wk7 at *
      generalize vs 5 = y5_wk7 at *
      generalize vs 6 = y6_wk7 at *
      generalize vs 7 = y7_wk7 at *
      generalize vs 8 = y8_wk7 at *
      obtain ⟨wd, rfl⟩ : ∃ x : World, x = wE := ⟨_, rfl⟩
      have D0 := Lib.hid (HC0.out _ HKwd.out).1
      have D1 := Lib.hid (HC0.out _ HKwd.out).2
      go_wp2_with fail
      refine Calls.mono (cencodeG_any 1 1 ⟨#[113]⟩ _ (by decide)) ?_
      rintro e we ⟨v, rfl, hg, hk⟩
      rw [enc_q] at hg ⊢
      obtain ⟨hs, pv, nv, qe, rfl, _⟩ := hg
      have hl : nv = 1 := by obtain ⟨_, _, e, _⟩ := hs; cases e; rfl
      subst hl
      obtain ⟨b2, o2, rfl, d2⟩ := text_cellH (SeqIn.at_ hs) (i := 0) (by decide)
      have d3 : we.cell? ⟨b2, o2, none⟩ = some (.string ⟨#[0, 0, 0, 0, 0, 0, 0, 1, 113]⟩) := d2
      have HKE := Lib.hid (HKwd.out.trans hk)
      clear hs hk d2
      go_wp2_with fail
      go_ret
      exact ⟨rfl, (kal w _).trans HKE.out⟩
end Go.Proofs.YtllfhaocdknejaaDoor
