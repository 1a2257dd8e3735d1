/- The walk of the law PathTells. Printed by genptl.py. -/
import Derived.Test.YtdpfanifagfciaaDoorTreeRT
namespace Go.Proofs.YtdpfanifagfciaaDoor
open Go.RowKit
attribute [local go_sem ↓] Go.wp_at_zero Go.wp_at_succ
theorem SeqIn.set {α : Type} {S : Nat → Prop} {E : TypeId} {R : Value → α → Prop} {w : World} {b off n c : Nat} {l : List α} (s : SeqIn S E R w.heap (.slice (some ⟨b, off, none⟩) n c) l) {i : Nat} (hi : i < l.length) (u : Value) (x : α) (hr : R u x) : SeqIn S E R (w.setCell ⟨b, off + i, none⟩ u).heap (.slice (some ⟨b, off, none⟩) n c) (l.set i x) := by
  obtain ⟨a, cap, e, hl, hel⟩ := s
  injection e with e1 e2 e3
  refine ⟨some ⟨b, off, none⟩, c, by rw [List.length_set, e2], by rw [List.length_set]; exact hl, fun j hj => ?_⟩
  rw [List.length_set] at hj
  obtain ⟨b', off', v, x1, ⟨x2, x3⟩, x4, x5, x6⟩ := hel j hj
  rw [← e1] at x1
  simp only [Option.some.injEq, Addr.mk.injEq, and_true] at x1
  obtain ⟨rfl, rfl⟩ := x1
  by_cases h : i = j
  · subst h
    refine ⟨b, off, u, rfl, ⟨x2, by rw [typH_set]; exact x3⟩, by rw [frozH_set]; exact x4, ?_, by rw [List.getElem_set_self]; exact hr⟩
    rw [← cell_of] at x5 ⊢
    exact World.cell?_setCell_same' _ _ _ (by rw [x5]; rfl)
  · refine ⟨b, off, v, rfl, ⟨x2, by rw [typH_set]; exact x3⟩, by rw [frozH_set]; exact x4, ?_, by rw [List.getElem_set_ne h]; exact x6⟩
    obtain ⟨_, off2, v2, y1, _, _, y5, _⟩ := hel i hi
    rw [← e1] at y1
    simp only [Option.some.injEq, Addr.mk.injEq, and_true] at y1
    obtain ⟨rfl, rfl⟩ := y1
    rw [cellH_set _ _ _ _ _ _ _ y5, if_neg (by omega)]; exact x5
theorem int_cellT {w : World} {p : Option Addr} {n c : Nat} {l : List Int} (s : SeqAt IsInt w.heap (.slice p n c) l) {i : Nat} (hi : i < l.length) : ∃ b off, p = some ⟨b, off, none⟩ ∧ w.cell? ⟨b, off + i, none⟩ = some (.int .i64 l[i]) := by
  obtain ⟨b, off, c', u, e, c1, r1⟩ := seq_cell s hi
  injection e with e1 _ _
  unfold IsInt at r1
  exact ⟨b, off, e1, by rw [c1, r1]⟩
theorem seqIn_cell {α : Type} {S : Nat → Prop} {E : TypeId} {R : Value → α → Prop} {w : World} {p : Option Addr} {n c : Nat} {l : List α} (s : SeqIn S E R w.heap (.slice p n c) l) {i : Nat} (hi : i < l.length) : ∃ b off u, p = some ⟨b, off, none⟩ ∧ S b ∧ w.frozen? ⟨b, off + i, none⟩ = false ∧ w.cell? ⟨b, off + i, none⟩ = some u ∧ R u l[i] := by
  obtain ⟨a, cap, e, hl, hel⟩ := s
  injection e with e1 e2 e3
  obtain ⟨b, off, u, x1, ⟨x2, _⟩, x4, x5, x6⟩ := hel i hi
  exact ⟨b, off, u, e1.trans x1, x2, by rw [froz_of]; exact x4, by rw [cell_of]; exact x5, x6⟩
set_option maxRecDepth 100000 in
set_option maxHeartbeats 8000000 in
theorem pathtells_any (p : ByteArray) (v : Value) (l : List FileR) (u : Value) (m : List FileR) (dir : ByteArray) (w : World) (h : FilesAt w.heap v l) (hm : FilesAt w.heap u m) : Calls Tryd.prog 11 #[.string p, v, u, .string dir] w fun e w' => e = .returned (.bool true) ∧ Keeps w w' := by
  obtain ⟨pa, qa, rfl⟩ := rec_shape h
  obtain ⟨pb, qb, rfl⟩ := rec_shape hm
  have H := Lib.hid h
  have HM := Lib.hid hm
  clear h hm
  by_cases hp : 400 < p.size
  · have g1 : decide ((400 : Int) < (p.size : Int)) = true := decide_eq_true (by omega)
    go_enter Tryd.func11, Tryd.ntmps11
    go_wp2_with fail
    refine Calls.mono (awake_any _) ?_
    rintro e w1 ⟨rfl, hk⟩
    go_wp2_with fail
    go_ret
    exact ⟨rfl, hk⟩
  have g1 : decide ((400 : Int) < (p.size : Int)) = false := decide_eq_false (by omega)
  by_cases hd : 400 < dir.size
  · have g2 : decide ((400 : Int) < (dir.size : Int)) = true := decide_eq_true (by omega)
    go_enter Tryd.func11, Tryd.ntmps11
    go_wp2_with fail
    refine Calls.mono (awake_any _) ?_
    rintro e w1 ⟨rfl, hk⟩
    go_wp2_with fail
    go_ret
    exact ⟨rfl, hk⟩
  have g2 : decide ((400 : Int) < (dir.size : Int)) = false := decide_eq_false (by omega)
  have hps : p.size ≤ 400 := by omega
  have hds : dir.size ≤ 400 := by omega
  clear hp hd
  go_enter Tryd.func11, Tryd.ntmps11
  go_wp2_with fail
  refine Calls.mono (long18_any _ l _ H.out) ?_
  rintro e w' ⟨rfl, rfl⟩
  cases hlb : longF l with
  | true =>
    clear hlb
    go_wp2_with fail
    refine Calls.mono (awake_any _) ?_
    rintro e w1 ⟨rfl, hk⟩
    go_wp2_with fail
    go_ret
    exact ⟨rfl, hk⟩
  | false =>
  have HL := Lib.hid hlb
  obtain ⟨hln, _⟩ := longF_no hlb
  clear hlb
  go_wp2_with fail
  refine Calls.mono (long18_any _ m _ HM.out) ?_
  rintro e w' ⟨rfl, rfl⟩
  cases hlb : longF m with
  | true =>
    clear hlb
    go_wp2_with fail
    refine Calls.mono (awake_any _) ?_
    rintro e w1 ⟨rfl, hk⟩
    go_wp2_with fail
    go_ret
    exact ⟨rfl, hk⟩
  | false =>
  have HLM := Lib.hid hlb
  obtain ⟨hlm, _⟩ := longF_no hlb
  clear hlb g1 g2
  go_wp2_with fail
  go_loopw [9] (fun i wr => ∃ n : Nat, n ≤ 2 ∧ i = .int .i64 n ∧ Hid (Keeps w wr)) (fun i _ => 2 - (intOf i).toNat)
  case atStart => exact ⟨0, by omega, rfl, keeps_refl _⟩
  case round =>
    obtain ⟨n, hn, rfl, hK⟩ := hrel
    by_cases hlt : n < 2
    · have hlt64 : decide ((n : Int) < 2) = true := decide_eq_true (by omega)
      have hlt65 : (n : Int) < 2 := by omega
      have HSL : Hid ((stepsT p).length ≤ 401) := by
        show _ ≤ _
        have := split_len p.data.toList
        rw [data_size] at this
        unfold stepsT; split
        · simp
        · rw [List.length_map]; omega
      have HKL := Lib.hid (kidsF_len l dir l.length)
      have HC1 := Lib.hid (fun wx => steps_any p wx (by omega))
      have HC2 := Lib.hid (fun wx => rsteps_any p wx (by omega))
      have HC3 := Lib.hid (fun wx (hk : Keeps w wx) => kids_any _ l dir wx (RecAt.keeps H.out hk) (longF_small HL.out) (by omega))
      have HC4 := Lib.hid (fun wx (hk : Keeps w wx) => rkids_any _ l dir wx (RecAt.keeps H.out hk) (longF_small HL.out) (by omega))
      generalize stepsT p = S at *
      generalize kidsF l dir l.length = K at *
      go_wp2_with fail
      refine Calls.mono (HC1.out _) ?_
      rintro e w7 ⟨v7, rfl, hs7, hk7⟩
      have HK7 := Lib.hid (hK.out.trans hk7)
      have hsz0 := hK.out.size
      have hszA := Lib.hid hk7.size
      have A7 := Lib.hid (SeqIn.bound (R' := IsText) hs7 (fun _ _ x => x))
      obtain ⟨p7, q7, rfl⟩ := seq_shape (SeqIn.at_ hs7)
      clear hs7 hk7
      go_wp2_with fail
      refine Calls.mono (HC2.out _) ?_
      rintro e w8 ⟨v8, rfl, hs8, hk8⟩
      have HK8 := Lib.hid (HK7.out.trans hk8)
      have hsz7 := hk8.size
      have A8 := Lib.hid (SeqIn.chg (T := fun _ => False) A7.out (Kept.any hk8) (fun _ _ _ _ x => x) (fun _ _ _ x => x))
      have B8 := Lib.hid (SeqIn.bound (R' := IsText) hs8 (fun _ _ x => x))
      obtain ⟨p8, q8, rfl⟩ := seq_shape (SeqIn.at_ hs8)
      clear hs8 hk8
      go_wp2_with fail
      refine Calls.mono (HC3.out _ HK8.out) ?_
      rintro e w9 ⟨v9, rfl, hs9, hk9⟩
      have HK9 := Lib.hid (HK8.out.trans hk9)
      have hsz8 := hk9.size
      have A9 := Lib.hid (SeqIn.chg (T := fun _ => False) A8.out (Kept.any hk9) (fun _ _ _ _ x => x) (fun _ _ _ x => x))
      have B9 := Lib.hid (SeqIn.chg (T := fun _ => False) B8.out (Kept.any hk9) (fun _ _ _ _ x => x) (fun _ _ _ x => x))
      have C9 := Lib.hid (SeqIn.bound (R' := IsInt) hs9 (fun _ _ x => x))
      obtain ⟨p9, q9, rfl⟩ := seq_shape (SeqIn.at_ hs9)
      clear hs9 hk9
      go_wp2_with fail
      refine Calls.mono (HC4.out _ HK9.out) ?_
      rintro e w10 ⟨v10, rfl, hs10, hk10⟩
      have HK10 := Lib.hid (HK9.out.trans hk10)
      have hsz9 := hk10.size
      have A10 := Lib.hid (SeqIn.chg (T := fun _ => False) A9.out (Kept.any hk10) (fun _ _ _ _ x => x) (fun _ _ _ x => x))
      have B10 := Lib.hid (SeqIn.chg (T := fun _ => False) B9.out (Kept.any hk10) (fun _ _ _ _ x => x) (fun _ _ _ x => x))
      have C10 := Lib.hid (SeqIn.chg (T := fun _ => False) C9.out (Kept.any hk10) (fun _ _ _ _ x => x) (fun _ _ _ x => x))
      have D10 := Lib.hid hs10
      obtain ⟨p10, q10, rfl⟩ := seq_shape (SeqIn.at_ hs10)
      have HSZ : Hid (w.heap.size ≤ wr.heap.size ∧ wr.heap.size ≤ w7.heap.size ∧ w7.heap.size ≤ w8.heap.size ∧ w8.heap.size ≤ w9.heap.size) := ⟨hsz0, hszA.out, hsz7, hsz8⟩
      clear hs10 hk10 A7 A8 A9 B8 B9 C9 HC1 HC2 HC3 HC4 HK7 HK8 HK9 hsz0 hsz7 hsz8 hsz9
      have hsl := HSL.out
      have hkl := HKL.out
      generalize wr.heap.size = N at *
      generalize w7.heap.size = N7 at *
      generalize w8.heap.size = N8 at *
      generalize w9.heap.size = N9 at *
      go_wp2_with fail
      go_loopw [14] (fun i wx => ∃ (j : Nat) (A : List ByteArray), j ≤ S.length ∧ i = .int .i64 j ∧ A.length = S.length ∧ Hid (∀ i, j ≤ i → i < S.length → tAt A i = tAt S i) ∧ Hid (SeqIn (fun b => N ≤ b ∧ b < N7) 9 IsText wx.heap (.slice p7 S.length q7) A) ∧ Hid (Chg (fun b => N ≤ b ∧ b < N7) w10 wx)) (fun i _ => S.length - (intOf i).toNat)
      case atStart => exact ⟨0, S, by omega, rfl, rfl, fun _ _ _ => rfl, by exact A10, by exact Chg.refl _ _⟩
      case round =>
        obtain ⟨j, A, hj, rfl, hA, hE, hI, hC⟩ := hrel
        by_cases hjl : j < S.length
        · have hj64 : (j : Int) < (S.length : Int) := by omega
          have hj0 : (0 : Int) ≤ (j : Int) := by omega
          obtain ⟨b1, o1, x1, rfl, hb1, fr, c1, r1⟩ := seqIn_cell hI.out (i := j) (by omega)
          unfold IsText at r1
          subst r1
          rw [← tAt_eq, hE.out j (by omega) hjl] at c1
          have hb8 : SeqIn (fun b => N7 ≤ b ∧ b < N8) 9 IsText wr.heap (.slice p8 S.length q8) S := SeqIn.chg B10.out hC.out (fun b _ hb _ ht => by omega) (fun _ _ _ x => x)
          obtain ⟨b2, o2, rfl, c2⟩ := text_cell (SeqIn.at_ hb8) hjl
          have hset := fun (wx : World) (hk : Chg (fun _ => False) wr wx) => SeqIn.set (SeqIn.chg (R' := IsText) hI.out hk (fun _ _ _ _ x => x) (fun _ _ _ x => x)) (i := j) (by omega) (.string ⟨#[115, 112, 111, 105, 108, 116]⟩) ⟨#[115, 112, 111, 105, 108, 116]⟩ rfl
          have HSET := Lib.hid hset
          have HE2 : Hid (∀ i, j + 1 ≤ i → i < S.length → tAt (A.set j ⟨#[115, 112, 111, 105, 108, 116]⟩) i = tAt S i) := fun i h1 h2 => by
            rw [← hE.out i (by omega) h2]
            unfold tAt
            rw [List.getD_eq_getElem?_getD, List.getD_eq_getElem?_getD, List.getElem?_set_ne (by omega)]
          clear hset hb8
          generalize tAt S j = y at *
          go_wp2_with fail
          go_quiet (fail)
          have c1' : (wr.drewN nq).cell? ⟨b1, o1 + j, none⟩ = some (.string y) := c1
          have fr' : (wr.drewN nq).frozen? ⟨b1, o1 + j, none⟩ = false := fr
          go_wp2_with fail
          exact ⟨⟨j + 1, _, by omega, by go_num, by simpa using hA, HE2, by exact HSET.out (wr.drewN nq) (Chg.refl _ wr), by exact Chg.setCell (p := ⟨b1, o1 + j, none⟩) (show Chg _ w10 (wr.drewN nq) from hC.out) (fun _ => hb1) _⟩, by simp [intOf]; omega⟩
        · obtain rfl : j = S.length := by omega
          have C11 := Lib.hid (SeqIn.chg (R' := IsInt) C10.out hC.out (fun b _ hb _ ht => by have := HSZ.out; omega) (fun _ _ _ x => x))
          have D11 := Lib.hid (SeqIn.chg (R' := IsInt) D10.out hC.out (fun b _ hb _ ht => by have := HSZ.out; omega) (fun _ _ _ x => x))
          have HCX : Hid (Chg (fun b => N ≤ b) w10 wr) := hC.out.mono fun _ _ x => x.1
          clear hE hI hC A10 B10 C10 D10
          go_wp2_with fail
          go_loopw [15] (fun i wx => ∃ (j : Nat) (A : List Int), j ≤ K.length ∧ i = .int .i64 j ∧ A.length = K.length ∧ Hid (∀ i, j ≤ i → i < K.length → A.getD i 0 = K.getD i 0) ∧ Hid (SeqIn (fun b => N8 ≤ b ∧ b < N9) 3 IsInt wx.heap (.slice p9 K.length q9) A) ∧ Hid (Chg (fun b => N8 ≤ b ∧ b < N9) wr wx)) (fun i _ => K.length - (intOf i).toNat)
          case atStart => exact ⟨0, K, by omega, rfl, rfl, fun _ _ _ => rfl, by exact C11, by exact Chg.refl _ _⟩
          case round =>
            obtain ⟨j, A, hj, rfl, hA, hE, hI, hC⟩ := hrel
            by_cases hjl : j < K.length
            · have hj64 : (j : Int) < (K.length : Int) := by omega
              have hj0 : (0 : Int) ≤ (j : Int) := by omega
              obtain ⟨b1, o1, x1, rfl, hb1, fr, c1, r1⟩ := seqIn_cell hI.out (i := j) (by omega)
              unfold IsInt at r1
              subst r1
              have ea : A[j]'(by omega) = K.getD j 0 := by rw [← hE.out j (by omega) hjl, List.getD_eq_getElem?_getD, List.getElem?_eq_getElem (by omega)]; rfl
              rw [ea] at c1
              have hb8 : SeqIn (fun b => N9 ≤ b) 3 IsInt wr.heap (.slice p10 K.length q10) K := SeqIn.chg D11.out hC.out (fun b _ hb _ ht => by omega) (fun _ _ _ x => x)
              obtain ⟨b2, o2, rfl, c2⟩ := int_cellT (SeqIn.at_ hb8) hjl
              have eb : K[j] = K.getD j 0 := by rw [List.getD_eq_getElem?_getD, List.getElem?_eq_getElem hjl]; rfl
              rw [eb] at c2
              have hset := fun (wx : World) (hk : Chg (fun _ => False) wr wx) => SeqIn.set (SeqIn.chg (R' := IsInt) hI.out hk (fun _ _ _ _ x => x) (fun _ _ _ x => x)) (i := j) (by omega) (.int .i64 (-7)) (-7) rfl
              have HSET := Lib.hid hset
              have HE2 : Hid (∀ i, j + 1 ≤ i → i < K.length → (A.set j (-7)).getD i 0 = K.getD i 0) := fun i h1 h2 => by
                rw [← hE.out i (by omega) h2]
                rw [List.getD_eq_getElem?_getD, List.getD_eq_getElem?_getD, List.getElem?_set_ne (by omega)]
              clear hset hb8 ea eb
              generalize K.getD j 0 = y at *
              go_wp2_with fail
              go_quiet (fail)
              have c1' : (wr.drewN nq).cell? ⟨b1, o1 + j, none⟩ = some (.int .i64 y) := c1
              have fr' : (wr.drewN nq).frozen? ⟨b1, o1 + j, none⟩ = false := fr
              go_wp2_with fail
              exact ⟨⟨j + 1, _, by omega, by go_num, by simpa using hA, HE2, by exact HSET.out (wr.drewN nq) (Chg.refl _ wr), by exact Chg.setCell (p := ⟨b1, o1 + j, none⟩) (show Chg _ _ (wr.drewN nq) from hC.out) (fun _ => hb1) _⟩, by simp [intOf]; omega⟩
            · obtain rfl : j = K.length := by omega
              have HCY : Hid (Chg (fun b => N ≤ b) w10 wr) := HCX.out.trans (hC.out.mono fun _ _ x => by have := HSZ.out; omega)
              have HKE : Hid (Keeps w wr) := HK10.out.then (chg_kept (B := w.heap.size) HCY.out (fun q _ e => by have := HSZ.out; omega) HK10.out.size) (Nat.le_refl _)
              clear hE hI hC C11 D11 HCX HCY
              go_wp2_with fail
              exact ⟨⟨n + 1, by omega, by go_num, by exact HKE⟩, by simp [intOf]; omega⟩
    · obtain rfl : n = 2 := by omega
      have HUI : Hid (upIs p = upIs p) := rfl
      have hk := hK.out
      clear hlt
      go_wp2_with fail
      refine Calls.mono (above_any p _ (by omega)) ?_
      rintro e wa ⟨rfl, hwa⟩
      rw [hwa]
      clear hwa
      go_wp2_with fail
      refine Calls.mono (rabove_any p _ (by omega)) ?_
      rintro e wb ⟨rfl, hwb⟩
      rw [← hwb]
      clear hwb
      generalize upIs p = I at *
      generalize upT p = U at *
      have hii : (I == I) = true := by simp
      go_wp2_with fail
      refine Calls.mono (may_any p _) ?_
      rintro e w1 ⟨rfl, hk1⟩
      have HK1 := Lib.hid (hk.trans hk1)
      clear hk1 hk hK
      go_wp2_with fail
      refine Calls.mono (rmay_any p _ (by omega)) ?_
      rintro e w2 ⟨rfl, hk2⟩
      have HK2 := Lib.hid (HK1.out.trans hk2)
      clear hk2 HK1
      generalize mayPath p.data.toList = my at *
      have hmy : (my == my) = true := by simp
      go_wp2_with fail
      refine Calls.mono (tree_any _ l _ (RecAt.keeps H.out HK2.out) (longF_small HL.out)) ?_
      rintro e w3 ⟨rfl, hk3⟩
      have HK3 := Lib.hid (HK2.out.trans hk3)
      clear hk3 HK2
      go_wp2_with fail
      refine Calls.mono (rtree_any _ l _ (RecAt.keeps H.out HK3.out) (longF_small HL.out)) ?_
      rintro e w4 ⟨rfl, hk4⟩
      have HK4 := Lib.hid (HK3.out.trans hk4)
      clear hk4 HK3
      rw [tree_same]
      generalize treeF l = ty at *
      have hty : (ty == ty) = true := by simp
      go_wp2_with fail
      refine Calls.mono (same_any _ _ l m _ (RecAt.keeps H.out HK4.out) (RecAt.keeps HM.out HK4.out)) ?_
      rintro e w5 ⟨rfl, hk5⟩
      have HK5 := Lib.hid (HK4.out.trans hk5)
      clear hk5 HK4
      go_wp2_with fail
      refine Calls.mono (rsame_any _ _ l m _ (RecAt.keeps H.out HK5.out) (RecAt.keeps HM.out HK5.out)) ?_
      rintro e w6 ⟨rfl, hk6⟩
      have HK6 := Lib.hid (HK5.out.trans hk6)
      clear hk6 HK5
      generalize sameF l m = sy at *
      have hsy : (sy == sy) = true := by simp
      go_wp2_with fail
      refine Calls.mono (same_any _ _ l l _ (RecAt.keeps H.out HK6.out) (RecAt.keeps H.out HK6.out)) ?_
      rintro e w7 ⟨rfl, hk7⟩
      have HK7 := Lib.hid (HK6.out.trans hk7)
      rw [sameF_self]
      clear hk7 HK6
      go_wp2_with fail
      refine Calls.mono (size_any _ l _ (RecAt.keeps H.out HK7.out) (longF_size HL.out)) ?_
      rintro e w8 ⟨rfl, hk8⟩
      have HK8 := Lib.hid (HK7.out.trans hk8)
      clear hk8 HK7
      go_wp2_with fail
      refine Calls.mono (rsize_any _ l _ (RecAt.keeps H.out HK8.out) (longF_size HL.out)) ?_
      rintro e w9 ⟨rfl, hw9⟩
      rw [← hw9]
      clear hw9
      generalize sizeF l = z at *
      go_wp2_with fail
      refine Calls.mono (awake_any _) ?_
      rintro e w10 ⟨rfl, hk10⟩
      have HK10 := Lib.hid (HK8.out.trans hk10)
      clear hk10 HK8
      go_wp2_with fail
      go_ret
      exact ⟨rfl, HK10.out⟩
end Go.Proofs.YtdpfanifagfciaaDoor
