/- The walk of node.May. Printed by gennmay.py. -/
import Derived.Test.YtdpfanifagfciaaDoorNode2
import Derived.Test.YtdpfanifagfciaaDoorStage
namespace Go.Proofs.YtdpfanifagfciaaDoor
open Go.RowKit
attribute [local go_sem ↓] Go.wp_at_zero Go.wp_at_succ
def nmyA (b1 o1 nn q k kp F m qc : Nat) (n Pn : ByteArray) (d : Bool) (z : Int) (pc : Option Addr) : Nat → Value → Prop
  | i, v => v = ([.agg #[.string n, .bool d, .int .i64 z, .slice pc m qc], .bool false, .bool true, .bool true, undef, undef, undef, undef, undef, undef, undef, undef, undef, undef, undef, undef, undef, .bool true] : List Value).getD i undef
def nmyB (b1 o1 nn q k kp F m qc : Nat) (n Pn : ByteArray) (d : Bool) (z : Int) (pc : Option Addr) : Nat → Value → Prop
  | i, v => v = ([.agg #[.string n, .bool d, .int .i64 z, .slice pc m qc], .bool true, .bool false, .bool false, .int .i64 (k : Int), .bool false, .bool false, undef, undef, undef, undef, undef, undef, undef, undef, undef, .bool false, .bool false] : List Value).getD i undef
def nmyC (b1 o1 nn q k kp F m qc : Nat) (n Pn : ByteArray) (d : Bool) (z : Int) (pc : Option Addr) : Nat → Value → Prop
  | i, v => v = ([.agg #[.string n, .bool d, .int .i64 z, .slice pc m qc], .bool true, .bool false, .bool false, .int .i64 (k : Int), .bool true, .bool true, .slice (some ⟨b1, o1, none⟩) nn q, .int .i64 (k : Int), .int .i64 (kp : Int), .pointer (some ⟨b1, o1 + kp * 4, none⟩), .pointer (some ⟨b1, o1 + kp * 4, none⟩), .string Pn, .pointer (some ⟨F, 0, none⟩), .string n, .bool true, .bool true, .bool true] : List Value).getD i undef
def nmyD (b1 o1 nn q k kp F m qc : Nat) (n Pn : ByteArray) (d : Bool) (z : Int) (pc : Option Addr) : Nat → Value → Prop
  | i, v => v = ([.agg #[.string n, .bool d, .int .i64 z, .slice pc m qc], .bool true, .bool false, .bool false, .int .i64 (k : Int), .bool true, .bool true, .slice (some ⟨b1, o1, none⟩) nn q, .int .i64 (k : Int), .int .i64 (kp : Int), .pointer (some ⟨b1, o1 + kp * 4, none⟩), .pointer (some ⟨b1, o1 + kp * 4, none⟩), .string Pn, .pointer (some ⟨F, 0, none⟩), .string n, .bool false, .bool false, .bool false] : List Value).getD i undef
set_option maxRecDepth 100000 in
set_option maxHeartbeats 8000000 in
theorem nmay_any (v : Value) (l : List EntR) (w : World) (h : EntsAt w.heap v l) : Calls Tryd.prog 22 #[v] w fun e w' => e = .returned (.bool (mayL l)) ∧ Keeps w w' := by
  obtain ⟨p, q, rfl⟩ := rec_shape h
  have HLM : Hid (l.length ≤ 9223372036854775807) := let ⟨_, _, _, x, _⟩ := h; x
  have hl63 := HLM.out
  have H := Lib.hid h
  clear h
  go_enter Tryd.func22, Tryd.ntmps22
  go_wp2_with fail
  go_loopw [7] (fun i wr => ∃ k : Nat, k ≤ l.length ∧ i = .int .i64 k ∧ Hid (∀ j, j < k → okE l j = true) ∧ Hid (Keeps w wr)) (fun i _ => l.length - (intOf i).toNat)
  case atStart => exact ⟨0, by omega, rfl, fun j h => absurd h (by omega), keeps_refl _⟩
  case round =>
    obtain ⟨k, hk, rfl, hN, hK⟩ := hrel
    by_cases hlt : k < l.length
    · have hlt64 : (k : Int) < (l.length : Int) := by omega
      have hk0 : (0 : Int) ≤ (k : Int) := by omega
      obtain ⟨b1, o1, pc, qc, rfl, _, a0, a1, a2, a3, ht, _⟩ := ent_cell (EntsAt.keeps H.out hK.out) hlt
      obtain ⟨b2, o2, _, _, e2, _, c0, _⟩ := ent_cell (EntsAt.keeps H.out hK.out) (i := k - 1) (by omega)
      injection e2 with e2
      injection e2 with e21 e22 _
      subst e21 e22
      have HN2 : Hid (okE l k = true → ∀ j, j < k + 1 → okE l j = true) := fun e j hj => by
        by_cases e2 : j = k
        · subst e2; exact e
        · exact hN.out j (by omega)
      have HF : Hid (okE l k = false → mayL l = false) := fun e => by
        unfold mayL
        rw [Bool.and_eq_false_iff]
        right
        rw [List.all_eq_false]
        exact ⟨k, List.mem_range.2 hlt, by rw [e]; simp⟩
      have HOK : Hid (okE l k = (mayE (eAt l k) && (decide (k = 0) || lessT (eAt l (k - 1)).n (eAt l k).n))) := rfl
      have HMAY : Hid (∀ wx, SeqAt IsText wx.heap (.slice pc (eAt l k).c.length qc) (eAt l k).c → Calls Tryd.prog 55 #[.agg #[.string (eAt l k).n, .bool (eAt l k).d, .int .i64 (eAt l k).z, .slice pc (eAt l k).c.length qc]] wx fun e w' => e = .returned (.bool (mayE (eAt l k))) ∧ Keeps wx w') := fun wx hh => emay_any _ _ _ _ _ _ wx hh
      have HGE : Hid ((!(Op.bytesLess (eAt l (k - 1)).n.toList (eAt l k).n.toList)) = !(lessT (eAt l (k - 1)).n (eAt l k).n)) := rfl
      have HTX := Lib.hid ht
      generalize hkp : k - 1 = kp at *
      have HW : Hid (k = 0 ∨ IntKind.i64.wrap ((k : Int) - 1) = (kp : Int)) := by
        subst hkp
        by_cases e : k = 0
        · exact .inl e
        · exact .inr (by rw [IntWalk.i64_in _ (by omega)]; omega)
      have HB : Hid ((0 : Int) ≤ (kp : Int) ∧ (kp : Int) < (l.length : Int)) := ⟨by omega, by omega⟩
      have HON := Lib.hid (entA_one (eAt l k).n (eAt l k).d (eAt l k).z pc (eAt l k).c.length qc)
      clear hkp ht
      generalize mayE (eAt l k) = my at *
      generalize lessT (eAt l kp).n (eAt l k).n = ls at *
      generalize (eAt l k).n = n at *
      generalize (eAt l k).d = d at *
      generalize (eAt l k).z = z at *
      generalize (eAt l kp).n = Pn at *
      generalize (eAt l k).c = c at *
      generalize c.length = m at *
      go_upto_region 4 with (refine wpList_store_row rfl 33 (.tmp 4) (.tmp 11) rfl wr.heap.size #[.string n, .bool d, .int .i64 z, .slice pc m qc] rfl rfl 33 _ (heap_alloc_last wr _) (by kernel_rfl) rfl HON.out ?_; rw [World.setRow_alloc_new])
      have E0 : Hid ((wr.alloc (.cells #[.string n, .bool d, .int .i64 z, .slice pc m qc] 33)).cell? ⟨wr.heap.size, 0, none⟩ = some (.string n)) := World.cell?_alloc_new _ _ _ _
      have E1 : Hid ((wr.alloc (.cells #[.string n, .bool d, .int .i64 z, .slice pc m qc] 33)).cell? ⟨wr.heap.size, 1, none⟩ = some (.bool d)) := World.cell?_alloc_new _ _ _ _
      have E2 : Hid ((wr.alloc (.cells #[.string n, .bool d, .int .i64 z, .slice pc m qc] 33)).cell? ⟨wr.heap.size, 2, none⟩ = some (.int .i64 z)) := World.cell?_alloc_new _ _ _ _
      have E3 : Hid ((wr.alloc (.cells #[.string n, .bool d, .int .i64 z, .slice pc m qc] 33)).cell? ⟨wr.heap.size, 3, none⟩ = some (.slice pc m qc)) := World.cell?_alloc_new _ _ _ _
      have Q0 := Lib.hid (keeps_cell (kal wr (.cells #[.string n, .bool d, .int .i64 z, .slice pc m qc] 33)) c0)
      replace HTX := Lib.hid (SeqAt.keeps HTX.out (kal wr (.cells #[.string n, .bool d, .int .i64 z, .slice pc m qc] 33)))
      have HKF : Hid (Keeps w (wr.alloc (.cells #[.string n, .bool d, .int .i64 z, .slice pc m qc] 33))) := hK.out.trans (kal _ _)
      clear a0 a1 a2 a3 c0 hK
      generalize wr.alloc (.cells #[.string n, .bool d, .int .i64 z, .slice pc m qc] 33) = wf at *
      generalize wr.heap.size = F at *

      cases my with
      | false =>
        have HT2 := Lib.hid (HF.out (by rw [HOK.out]; rfl))
        refine wp_region_stage [12, 13, 14, 15, 16, 17, 18, 19, 20, 21, 22, 23, 24, 25, 26, 27, 28, 29] [[], [0], [1], [2], [3], [3], [3], [6], [6], [6], [6], [6], [6], [6], [6], [6], [3], [3, 16]] [] [0, 0, 0, 0, 0, 0, 0, 0, 0, 0, 0, 0, 0, 0, 0, 0, 0, 0] [4, 5, 6, 7, 8, 9, 10, 11, 12, 13, 14, 15, 16] (fun i v _ => nmyA b1 o1 l.length q k kp F m qc n Pn d z pc i v) (fun w w' => Keeps w w') (fun _ _ w' => Keeps wf w') (by kernel_rfl) (by kernel_rfl) (by kernel_rfl) (by kernel_rfl) (by kernel_rfl) (by kernel_rfl) (by kernel_rfl) ?_ ?_ ?_ ?_ ?_ ?_ ?_
        · exact fun i v w w' c h => h
        · exact fun w => keeps_refl w
        · exact fun i s vs w _ h => h
        · refine ⟨?_, ?_, ?_, ?_, ?_, ?_, ?_, ?_, ?_, ?_, ?_, ?_, ?_, ?_, ?_, ?_, ?_, ?_, trivial⟩
          · exact fun g b h => by (cases h)
          · exact fun g b h => by (cases h)
          · exact fun g b h => by (cases h)
          · exact fun g b h => by (cases h)
          · exact ⟨⟨_, _, rfl, by decide, fun v w h => by (first | (change v = _ at h; subst h; intro x; cases x) | skip)⟩, fun w => rfl⟩
          · exact ⟨⟨_, _, rfl, by decide, fun v w h => by (first | (change v = _ at h; subst h; intro x; cases x) | skip)⟩, fun w => rfl⟩
          · exact ⟨⟨_, _, rfl, by decide, fun v w h => by (first | (change v = _ at h; subst h; intro x; cases x) | skip)⟩, fun w => rfl⟩
          · exact ⟨⟨_, _, rfl, by decide, fun v w h => by (first | (change v = _ at h; subst h; intro x; cases x) | skip)⟩, fun w => rfl⟩
          · exact ⟨⟨_, _, rfl, by decide, fun v w h => by (first | (change v = _ at h; subst h; intro x; cases x) | skip)⟩, fun w => rfl⟩
          · exact ⟨⟨_, _, rfl, by decide, fun v w h => by (first | (change v = _ at h; subst h; intro x; cases x) | skip)⟩, fun w => rfl⟩
          · exact ⟨⟨_, _, rfl, by decide, fun v w h => by (first | (change v = _ at h; subst h; intro x; cases x) | skip)⟩, fun w => rfl⟩
          · exact ⟨⟨_, _, rfl, by decide, fun v w h => by (first | (change v = _ at h; subst h; intro x; cases x) | skip)⟩, fun w => rfl⟩
          · exact ⟨⟨_, _, rfl, by decide, fun v w h => by (first | (change v = _ at h; subst h; intro x; cases x) | skip)⟩, fun w => rfl⟩
          · exact ⟨⟨_, _, rfl, by decide, fun v w h => by (first | (change v = _ at h; subst h; intro x; cases x) | skip)⟩, fun w => rfl⟩
          · exact ⟨⟨_, _, rfl, by decide, fun v w h => by (first | (change v = _ at h; subst h; intro x; cases x) | skip)⟩, fun w => rfl⟩
          · exact ⟨⟨_, _, rfl, by decide, fun v w h => by (first | (change v = _ at h; subst h; intro x; cases x) | skip)⟩, fun w => rfl⟩
          · exact ⟨⟨_, _, rfl, by decide, fun v w h => by (first | (change v = _ at h; subst h; intro x; cases x) | skip)⟩, fun w => rfl⟩
          · exact fun g b h => by (cases h)
        · exact fun _ _ => keeps_refl wf
        · refine ⟨?_, ?_, ?_, ?_, ?_, ?_, ?_, ?_, ?_, ?_, ?_, ?_, ?_, ?_, ?_, ?_, ?_, ?_, trivial⟩
          · intro _ a w1 vs hI ho hn hu K hK
            have e4 : a.tmps[4]? = some (.pointer (some ⟨F, 0, none⟩)) := ho 4 rfl
            clear hn ho hu
            have c0 := keeps_cell hI E0.out
            have c1 := keeps_cell hI E1.out
            have c2 := keeps_cell hI E2.out
            have c3 := keeps_cell hI E3.out
            go_simp
            exact hK _ _ (keeps_refl _) hI rfl
          · intro _ a w1 vs hI ho hn hu K hK
            obtain ⟨e12, g12⟩ : a.tmps[12]? = some (vs 0) ∧ vs 0 = .agg #[.string n, .bool d, .int .i64 z, .slice pc m qc] := hn 0 (by decide)
            rw [g12] at e12
            clear g12
            clear hn ho hu
            go_simp
            refine Calls.mono (HMAY.out _ (SeqAt.keeps HTX.out hI)) ?_
            rintro e w' ⟨rfl, hk2⟩
            go_simp
            exact hK _ _ hk2 (Keeps.trans hI hk2) rfl
          · intro _ a w1 vs hI ho hn hu K hK
            obtain ⟨e13, g13⟩ : a.tmps[13]? = some (vs 1) ∧ vs 1 = .bool false := hn 1 (by decide)
            rw [g13] at e13
            clear g13
            clear hn ho hu
            go_simp
            exact hK _ _ (keeps_refl _) hI rfl
          · intro _ a w1 vs hI ho hn hu K hK
            obtain ⟨e14, g14⟩ : a.tmps[14]? = some (vs 2) ∧ vs 2 = .bool true := hn 2 (by decide)
            rw [g14] at e14
            clear g14
            clear hn ho hu
            go_simp
            exact hK _ _ (keeps_refl _) hI rfl
          · intro hs; cases hs
          · intro hs; cases hs
          · intro hs; cases hs
          · intro hs; cases hs
          · intro hs; cases hs
          · intro hs; cases hs
          · intro hs; cases hs
          · intro hs; cases hs
          · intro hs; cases hs
          · intro hs; cases hs
          · intro hs; cases hs
          · intro hs; cases hs
          · intro hs; cases hs
          · intro _ a w1 vs hI ho hn hu K hK
            obtain ⟨e15, g15⟩ : a.tmps[15]? = some (vs 3) ∧ vs 3 = .bool true := hn 3 (by decide)
            rw [g15] at e15
            clear g15
            obtain ⟨e28, g28⟩ : a.tmps[28]? = some (vs 16) ∧ vs 16 = undef := hn 16 (by decide)
            rw [g28] at e28
            clear g28
            clear hn ho hu
            go_simp
            exact hK _ _ (keeps_refl _) hI rfl
        · intro vs wE hI hG
          have eL17 : vs 17 = .bool true := hG 17 (by decide)
          have HKE := Lib.hid hI
          clear hG hI
          simp only [setAll, Nat.zero_add, Nat.reduceAdd, List.setIfInBounds_toArray, List.set_cons_zero, List.set_cons_succ, eL17]
          clear eL17
          generalize vs 0 = y0 at *
          generalize vs 1 = y1 at *
          generalize vs 2 = y2 at *
          generalize vs 3 = y3 at *
          generalize vs 4 = y4 at *
          generalize vs 5 = y5 at *
          generalize vs 6 = y6 at *
          generalize vs 7 = y7 at *
          generalize vs 8 = y8 at *
          generalize vs 9 = y9 at *
          generalize vs 10 = y10 at *
          generalize vs 11 = y11 at *
          generalize vs 12 = y12 at *
          generalize vs 13 = y13 at *
          generalize vs 14 = y14 at *
          generalize vs 15 = y15 at *
          generalize vs 16 = y16 at *
          have HKW := Lib.hid (HKF.out.trans HKE.out)
          clear HKE
          go_wp2_with fail
          go_ret
          exact ⟨by rw [HT2.out]; rfl, HKW.out⟩
      | true =>
        by_cases hk0 : k = 0
        · have HG : Hid (decide ((0 : Int) < (k : Int)) = false ∧ decide (0 < k) = false) := ⟨decide_eq_false (by omega), decide_eq_false (by omega)⟩
          have HN3 := Lib.hid (HN2.out (by rw [HOK.out, decide_eq_true hk0]; rfl))
          have HK0 := Lib.hid hk0
          clear hk0
          refine wp_region_stage [12, 13, 14, 15, 16, 17, 18, 19, 20, 21, 22, 23, 24, 25, 26, 27, 28, 29] [[], [0], [1], [2], [3], [3, 4], [3, 5], [6], [6], [6], [6], [6], [6], [6], [6], [6], [3, 6, 15], [3, 16]] [] [0, 0, 0, 0, 0, 0, 0, 0, 0, 0, 0, 0, 0, 0, 0, 0, 0, 0] [7, 8, 9, 10, 11, 12, 13, 14, 15] (fun i v _ => nmyB b1 o1 l.length q k kp F m qc n Pn d z pc i v) (fun w w' => Keeps w w') (fun _ _ w' => Keeps wf w') (by kernel_rfl) (by kernel_rfl) (by kernel_rfl) (by kernel_rfl) (by kernel_rfl) (by kernel_rfl) (by kernel_rfl) ?_ ?_ ?_ ?_ ?_ ?_ ?_
          · exact fun i v w w' c h => h
          · exact fun w => keeps_refl w
          · exact fun i s vs w _ h => h
          · refine ⟨?_, ?_, ?_, ?_, ?_, ?_, ?_, ?_, ?_, ?_, ?_, ?_, ?_, ?_, ?_, ?_, ?_, ?_, trivial⟩
            · exact fun g b h => by (cases h)
            · exact fun g b h => by (cases h)
            · exact fun g b h => by (cases h)
            · exact fun g b h => by (cases h)
            · exact fun g b h => by (cases h; exact ⟨by decide, fun v w h => h⟩)
            · exact fun g b h => by (cases h; exact ⟨by decide, fun v w h => h⟩)
            · exact fun g b h => by (cases h; exact ⟨by decide, fun v w h => h⟩)
            · exact ⟨⟨_, _, rfl, by decide, fun v w h => by (first | (change v = _ at h; subst h; intro x; cases x) | skip)⟩, fun w => rfl⟩
            · exact ⟨⟨_, _, rfl, by decide, fun v w h => by (first | (change v = _ at h; subst h; intro x; cases x) | skip)⟩, fun w => rfl⟩
            · exact ⟨⟨_, _, rfl, by decide, fun v w h => by (first | (change v = _ at h; subst h; intro x; cases x) | skip)⟩, fun w => rfl⟩
            · exact ⟨⟨_, _, rfl, by decide, fun v w h => by (first | (change v = _ at h; subst h; intro x; cases x) | skip)⟩, fun w => rfl⟩
            · exact ⟨⟨_, _, rfl, by decide, fun v w h => by (first | (change v = _ at h; subst h; intro x; cases x) | skip)⟩, fun w => rfl⟩
            · exact ⟨⟨_, _, rfl, by decide, fun v w h => by (first | (change v = _ at h; subst h; intro x; cases x) | skip)⟩, fun w => rfl⟩
            · exact ⟨⟨_, _, rfl, by decide, fun v w h => by (first | (change v = _ at h; subst h; intro x; cases x) | skip)⟩, fun w => rfl⟩
            · exact ⟨⟨_, _, rfl, by decide, fun v w h => by (first | (change v = _ at h; subst h; intro x; cases x) | skip)⟩, fun w => rfl⟩
            · exact ⟨⟨_, _, rfl, by decide, fun v w h => by (first | (change v = _ at h; subst h; intro x; cases x) | skip)⟩, fun w => rfl⟩
            · exact fun g b h => by (cases h; exact ⟨by decide, fun v w h => h⟩)
            · exact fun g b h => by (cases h)
          · exact fun _ _ => keeps_refl wf
          · refine ⟨?_, ?_, ?_, ?_, ?_, ?_, ?_, ?_, ?_, ?_, ?_, ?_, ?_, ?_, ?_, ?_, ?_, ?_, trivial⟩
            · intro _ a w1 vs hI ho hn hu K hK
              have e4 : a.tmps[4]? = some (.pointer (some ⟨F, 0, none⟩)) := ho 4 rfl
              clear hn ho hu
              have c0 := keeps_cell hI E0.out
              have c1 := keeps_cell hI E1.out
              have c2 := keeps_cell hI E2.out
              have c3 := keeps_cell hI E3.out
              go_simp
              exact hK _ _ (keeps_refl _) hI rfl
            · intro _ a w1 vs hI ho hn hu K hK
              obtain ⟨e12, g12⟩ : a.tmps[12]? = some (vs 0) ∧ vs 0 = .agg #[.string n, .bool d, .int .i64 z, .slice pc m qc] := hn 0 (by decide)
              rw [g12] at e12
              clear g12
              clear hn ho hu
              go_simp
              refine Calls.mono (HMAY.out _ (SeqAt.keeps HTX.out hI)) ?_
              rintro e w' ⟨rfl, hk2⟩
              go_simp
              exact hK _ _ hk2 (Keeps.trans hI hk2) rfl
            · intro _ a w1 vs hI ho hn hu K hK
              obtain ⟨e13, g13⟩ : a.tmps[13]? = some (vs 1) ∧ vs 1 = .bool true := hn 1 (by decide)
              rw [g13] at e13
              clear g13
              clear hn ho hu
              go_simp
              exact hK _ _ (keeps_refl _) hI rfl
            · intro _ a w1 vs hI ho hn hu K hK
              obtain ⟨e14, g14⟩ : a.tmps[14]? = some (vs 2) ∧ vs 2 = .bool false := hn 2 (by decide)
              rw [g14] at e14
              clear g14
              clear hn ho hu
              go_simp
              exact hK _ _ (keeps_refl _) hI rfl
            · intro _ a w1 vs hI ho hn hu K hK
              have e3 : a.tmps[3]? = some (.int .i64 (k : Int)) := ho 3 rfl
              clear hn ho hu
              go_simp
              exact hK _ _ (keeps_refl _) hI rfl
            · intro _ a w1 vs hI ho hn hu K hK
              obtain ⟨e16, g16⟩ : a.tmps[16]? = some (vs 4) ∧ vs 4 = .int .i64 (k : Int) := hn 4 (by decide)
              rw [g16] at e16
              clear g16
              clear hn ho hu
              have q1 := HG.out.1
              have q2 := HG.out.2
              go_simp
              exact hK _ _ (keeps_refl _) hI rfl
            · intro _ a w1 vs hI ho hn hu K hK
              obtain ⟨e17, g17⟩ : a.tmps[17]? = some (vs 5) ∧ vs 5 = .bool false := hn 5 (by decide)
              rw [g17] at e17
              clear g17
              clear hn ho hu
              go_simp
              exact hK _ _ (keeps_refl _) hI rfl
            · intro hs; cases hs
            · intro hs; cases hs
            · intro hs; cases hs
            · intro hs; cases hs
            · intro hs; cases hs
            · intro hs; cases hs
            · intro hs; cases hs
            · intro hs; cases hs
            · intro hs; cases hs
            · intro _ a w1 vs hI ho hn hu K hK
              obtain ⟨e18, g18⟩ : a.tmps[18]? = some (vs 6) ∧ vs 6 = .bool false := hn 6 (by decide)
              rw [g18] at e18
              clear g18
              obtain ⟨e27, g27⟩ : a.tmps[27]? = some (vs 15) ∧ vs 15 = undef := hn 15 (by decide)
              rw [g27] at e27
              clear g27
              clear hn ho hu
              go_simp
              exact hK _ _ (keeps_refl _) hI rfl
            · intro _ a w1 vs hI ho hn hu K hK
              obtain ⟨e15, g15⟩ : a.tmps[15]? = some (vs 3) ∧ vs 3 = .bool false := hn 3 (by decide)
              rw [g15] at e15
              clear g15
              obtain ⟨e28, g28⟩ : a.tmps[28]? = some (vs 16) ∧ vs 16 = .bool false := hn 16 (by decide)
              rw [g28] at e28
              clear g28
              clear hn ho hu
              go_simp
              exact hK _ _ (keeps_refl _) hI rfl
          · intro vs wE hI hG
            have eL17 : vs 17 = .bool false := hG 17 (by decide)
            have HKE := Lib.hid hI
            clear hG hI
            simp only [setAll, Nat.zero_add, Nat.reduceAdd, List.setIfInBounds_toArray, List.set_cons_zero, List.set_cons_succ, eL17]
            clear eL17
            generalize vs 0 = y0 at *
            generalize vs 1 = y1 at *
            generalize vs 2 = y2 at *
            generalize vs 3 = y3 at *
            generalize vs 4 = y4 at *
            generalize vs 5 = y5 at *
            generalize vs 6 = y6 at *
            generalize vs 7 = y7 at *
            generalize vs 8 = y8 at *
            generalize vs 9 = y9 at *
            generalize vs 10 = y10 at *
            generalize vs 11 = y11 at *
            generalize vs 12 = y12 at *
            generalize vs 13 = y13 at *
            generalize vs 14 = y14 at *
            generalize vs 15 = y15 at *
            generalize vs 16 = y16 at *
            have HKW := Lib.hid (HKF.out.trans HKE.out)
            clear HKE
            go_wp2_with fail
            refine ⟨?_, by simp [intOf]; omega⟩
            first | exact ⟨k + 1, by omega, by go_num, HN3, HKW⟩ | ((repeat apply Exists.intro); exact ⟨⟨k + 1, by omega, by go_num, HN3, HKW⟩, rfl⟩)
        · have HG : Hid (decide ((0 : Int) < (k : Int)) = true ∧ decide (0 < k) = true) := ⟨decide_eq_true (by omega), decide_eq_true (by omega)⟩
          have HK0 := Lib.hid hk0
          clear hk0
          cases ls with
          | false =>
            have HT2 := Lib.hid (HF.out (by rw [HOK.out, decide_eq_false HK0.out]; rfl))
            refine wp_region_stage [12, 13, 14, 15, 16, 17, 18, 19, 20, 21, 22, 23, 24, 25, 26, 27, 28, 29] [[], [0], [1], [2], [3], [3, 4], [3, 5], [6], [6], [6, 8], [6, 7, 9], [6, 10], [6, 11], [6], [6, 13], [6, 12, 14], [3, 6, 15], [3, 16]] [] [0, 0, 0, 0, 0, 0, 0, 0, 0, 0, 0, 0, 0, 0, 0, 0, 0, 0] [] (fun i v _ => nmyC b1 o1 l.length q k kp F m qc n Pn d z pc i v) (fun w w' => Keeps w w') (fun _ _ w' => Keeps wf w') (by kernel_rfl) (by kernel_rfl) (by kernel_rfl) (by kernel_rfl) (by kernel_rfl) (by kernel_rfl) (by kernel_rfl) ?_ ?_ ?_ ?_ ?_ ?_ ?_
            · exact fun i v w w' c h => h
            · exact fun w => keeps_refl w
            · exact fun i s vs w _ h => h
            · refine ⟨?_, ?_, ?_, ?_, ?_, ?_, ?_, ?_, ?_, ?_, ?_, ?_, ?_, ?_, ?_, ?_, ?_, ?_, trivial⟩
              · exact fun g b h => by (cases h)
              · exact fun g b h => by (cases h)
              · exact fun g b h => by (cases h)
              · exact fun g b h => by (cases h)
              · exact fun g b h => by (cases h; exact ⟨by decide, fun v w h => h⟩)
              · exact fun g b h => by (cases h; exact ⟨by decide, fun v w h => h⟩)
              · exact fun g b h => by (cases h; exact ⟨by decide, fun v w h => h⟩)
              · exact fun g b h => by (cases h; exact ⟨by decide, fun v w h => h⟩)
              · exact fun g b h => by (cases h; exact ⟨by decide, fun v w h => h⟩)
              · exact fun g b h => by (cases h; exact ⟨by decide, fun v w h => h⟩)
              · exact fun g b h => by (cases h; exact ⟨by decide, fun v w h => h⟩)
              · exact fun g b h => by (cases h; exact ⟨by decide, fun v w h => h⟩)
              · exact fun g b h => by (cases h; exact ⟨by decide, fun v w h => h⟩)
              · exact fun g b h => by (cases h; exact ⟨by decide, fun v w h => h⟩)
              · exact fun g b h => by (cases h; exact ⟨by decide, fun v w h => h⟩)
              · exact fun g b h => by (cases h; exact ⟨by decide, fun v w h => h⟩)
              · exact fun g b h => by (cases h; exact ⟨by decide, fun v w h => h⟩)
              · exact fun g b h => by (cases h)
            · exact fun _ _ => keeps_refl wf
            · refine ⟨?_, ?_, ?_, ?_, ?_, ?_, ?_, ?_, ?_, ?_, ?_, ?_, ?_, ?_, ?_, ?_, ?_, ?_, trivial⟩
              · intro _ a w1 vs hI ho hn hu K hK
                have e4 : a.tmps[4]? = some (.pointer (some ⟨F, 0, none⟩)) := ho 4 rfl
                clear hn ho hu
                have c0 := keeps_cell hI E0.out
                have c1 := keeps_cell hI E1.out
                have c2 := keeps_cell hI E2.out
                have c3 := keeps_cell hI E3.out
                go_simp
                exact hK _ _ (keeps_refl _) hI rfl
              · intro _ a w1 vs hI ho hn hu K hK
                obtain ⟨e12, g12⟩ : a.tmps[12]? = some (vs 0) ∧ vs 0 = .agg #[.string n, .bool d, .int .i64 z, .slice pc m qc] := hn 0 (by decide)
                rw [g12] at e12
                clear g12
                clear hn ho hu
                go_simp
                refine Calls.mono (HMAY.out _ (SeqAt.keeps HTX.out hI)) ?_
                rintro e w' ⟨rfl, hk2⟩
                go_simp
                exact hK _ _ hk2 (Keeps.trans hI hk2) rfl
              · intro _ a w1 vs hI ho hn hu K hK
                obtain ⟨e13, g13⟩ : a.tmps[13]? = some (vs 1) ∧ vs 1 = .bool true := hn 1 (by decide)
                rw [g13] at e13
                clear g13
                clear hn ho hu
                go_simp
                exact hK _ _ (keeps_refl _) hI rfl
              · intro _ a w1 vs hI ho hn hu K hK
                obtain ⟨e14, g14⟩ : a.tmps[14]? = some (vs 2) ∧ vs 2 = .bool false := hn 2 (by decide)
                rw [g14] at e14
                clear g14
                clear hn ho hu
                go_simp
                exact hK _ _ (keeps_refl _) hI rfl
              · intro _ a w1 vs hI ho hn hu K hK
                have e3 : a.tmps[3]? = some (.int .i64 (k : Int)) := ho 3 rfl
                clear hn ho hu
                go_simp
                exact hK _ _ (keeps_refl _) hI rfl
              · intro _ a w1 vs hI ho hn hu K hK
                obtain ⟨e16, g16⟩ : a.tmps[16]? = some (vs 4) ∧ vs 4 = .int .i64 (k : Int) := hn 4 (by decide)
                rw [g16] at e16
                clear g16
                clear hn ho hu
                have q1 := HG.out.1
                have q2 := HG.out.2
                go_simp
                exact hK _ _ (keeps_refl _) hI rfl
              · intro _ a w1 vs hI ho hn hu K hK
                obtain ⟨e17, g17⟩ : a.tmps[17]? = some (vs 5) ∧ vs 5 = .bool true := hn 5 (by decide)
                rw [g17] at e17
                clear g17
                clear hn ho hu
                go_simp
                exact hK _ _ (keeps_refl _) hI rfl
              · intro _ a w1 vs hI ho hn hu K hK
                have e0 : a.tmps[0]? = some (.slice (some ⟨b1, o1, none⟩) l.length q) := ho 0 rfl
                clear hn ho hu
                go_simp
                exact hK _ _ (keeps_refl _) hI rfl
              · intro _ a w1 vs hI ho hn hu K hK
                have e3 : a.tmps[3]? = some (.int .i64 (k : Int)) := ho 3 rfl
                clear hn ho hu
                go_simp
                exact hK _ _ (keeps_refl _) hI rfl
              · intro _ a w1 vs hI ho hn hu K hK
                obtain ⟨e20, g20⟩ : a.tmps[20]? = some (vs 8) ∧ vs 8 = .int .i64 (k : Int) := hn 8 (by decide)
                rw [g20] at e20
                clear g20
                clear hn ho hu
                have q1 := HW.out.resolve_left HK0.out
                go_simp
                exact hK _ _ (keeps_refl _) hI rfl
              · intro _ a w1 vs hI ho hn hu K hK
                obtain ⟨e19, g19⟩ : a.tmps[19]? = some (vs 7) ∧ vs 7 = .slice (some ⟨b1, o1, none⟩) l.length q := hn 7 (by decide)
                rw [g19] at e19
                clear g19
                obtain ⟨e21, g21⟩ : a.tmps[21]? = some (vs 9) ∧ vs 9 = .int .i64 (kp : Int) := hn 9 (by decide)
                rw [g21] at e21
                clear g21
                clear hn ho hu
                have i1 := HB.out.1
                have i2 := HB.out.2
                go_simp
                exact hK _ _ (keeps_refl _) hI rfl
              · intro _ a w1 vs hI ho hn hu K hK
                obtain ⟨e22, g22⟩ : a.tmps[22]? = some (vs 10) ∧ vs 10 = .pointer (some ⟨b1, o1 + kp * 4, none⟩) := hn 10 (by decide)
                rw [g22] at e22
                clear g22
                clear hn ho hu
                go_simp
                exact hK _ _ (keeps_refl _) hI rfl
              · intro _ a w1 vs hI ho hn hu K hK
                obtain ⟨e23, g23⟩ : a.tmps[23]? = some (vs 11) ∧ vs 11 = .pointer (some ⟨b1, o1 + kp * 4, none⟩) := hn 11 (by decide)
                rw [g23] at e23
                clear g23
                clear hn ho hu
                have c0 := keeps_cell hI Q0.out
                go_simp
                exact hK _ _ (keeps_refl _) hI rfl
              · intro _ a w1 vs hI ho hn hu K hK
                have e4 : a.tmps[4]? = some (.pointer (some ⟨F, 0, none⟩)) := ho 4 rfl
                clear hn ho hu
                go_simp
                exact hK _ _ (keeps_refl _) hI rfl
              · intro _ a w1 vs hI ho hn hu K hK
                obtain ⟨e25, g25⟩ : a.tmps[25]? = some (vs 13) ∧ vs 13 = .pointer (some ⟨F, 0, none⟩) := hn 13 (by decide)
                rw [g25] at e25
                clear g25
                clear hn ho hu
                have c0 := keeps_cell hI E0.out
                go_simp
                exact hK _ _ (keeps_refl _) hI rfl
              · intro _ a w1 vs hI ho hn hu K hK
                obtain ⟨e24, g24⟩ : a.tmps[24]? = some (vs 12) ∧ vs 12 = .string Pn := hn 12 (by decide)
                rw [g24] at e24
                clear g24
                obtain ⟨e26, g26⟩ : a.tmps[26]? = some (vs 14) ∧ vs 14 = .string n := hn 14 (by decide)
                rw [g26] at e26
                clear g26
                clear hn ho hu
                have q1 := HGE.out
                go_simp
                exact hK _ _ (keeps_refl _) hI rfl
              · intro _ a w1 vs hI ho hn hu K hK
                obtain ⟨e18, g18⟩ : a.tmps[18]? = some (vs 6) ∧ vs 6 = .bool true := hn 6 (by decide)
                rw [g18] at e18
                clear g18
                obtain ⟨e27, g27⟩ : a.tmps[27]? = some (vs 15) ∧ vs 15 = .bool true := hn 15 (by decide)
                rw [g27] at e27
                clear g27
                clear hn ho hu
                go_simp
                exact hK _ _ (keeps_refl _) hI rfl
              · intro _ a w1 vs hI ho hn hu K hK
                obtain ⟨e15, g15⟩ : a.tmps[15]? = some (vs 3) ∧ vs 3 = .bool false := hn 3 (by decide)
                rw [g15] at e15
                clear g15
                obtain ⟨e28, g28⟩ : a.tmps[28]? = some (vs 16) ∧ vs 16 = .bool true := hn 16 (by decide)
                rw [g28] at e28
                clear g28
                clear hn ho hu
                go_simp
                exact hK _ _ (keeps_refl _) hI rfl
            · intro vs wE hI hG
              have eL17 : vs 17 = .bool true := hG 17 (by decide)
              have HKE := Lib.hid hI
              clear hG hI
              simp only [setAll, Nat.zero_add, Nat.reduceAdd, List.setIfInBounds_toArray, List.set_cons_zero, List.set_cons_succ, eL17]
              clear eL17
              generalize vs 0 = y0 at *
              generalize vs 1 = y1 at *
              generalize vs 2 = y2 at *
              generalize vs 3 = y3 at *
              generalize vs 4 = y4 at *
              generalize vs 5 = y5 at *
              generalize vs 6 = y6 at *
              generalize vs 7 = y7 at *
              generalize vs 8 = y8 at *
              generalize vs 9 = y9 at *
              generalize vs 10 = y10 at *
              generalize vs 11 = y11 at *
              generalize vs 12 = y12 at *
              generalize vs 13 = y13 at *
              generalize vs 14 = y14 at *
              generalize vs 15 = y15 at *
              generalize vs 16 = y16 at *
              have HKW := Lib.hid (HKF.out.trans HKE.out)
              clear HKE
              go_wp2_with fail
              go_ret
              exact ⟨by rw [HT2.out]; rfl, HKW.out⟩
          | true =>
            have HN3 := Lib.hid (HN2.out (by rw [HOK.out]; simp))
            refine wp_region_stage [12, 13, 14, 15, 16, 17, 18, 19, 20, 21, 22, 23, 24, 25, 26, 27, 28, 29] [[], [0], [1], [2], [3], [3, 4], [3, 5], [6], [6], [6, 8], [6, 7, 9], [6, 10], [6, 11], [6], [6, 13], [6, 12, 14], [3, 6, 15], [3, 16]] [] [0, 0, 0, 0, 0, 0, 0, 0, 0, 0, 0, 0, 0, 0, 0, 0, 0, 0] [] (fun i v _ => nmyD b1 o1 l.length q k kp F m qc n Pn d z pc i v) (fun w w' => Keeps w w') (fun _ _ w' => Keeps wf w') (by kernel_rfl) (by kernel_rfl) (by kernel_rfl) (by kernel_rfl) (by kernel_rfl) (by kernel_rfl) (by kernel_rfl) ?_ ?_ ?_ ?_ ?_ ?_ ?_
            · exact fun i v w w' c h => h
            · exact fun w => keeps_refl w
            · exact fun i s vs w _ h => h
            · refine ⟨?_, ?_, ?_, ?_, ?_, ?_, ?_, ?_, ?_, ?_, ?_, ?_, ?_, ?_, ?_, ?_, ?_, ?_, trivial⟩
              · exact fun g b h => by (cases h)
              · exact fun g b h => by (cases h)
              · exact fun g b h => by (cases h)
              · exact fun g b h => by (cases h)
              · exact fun g b h => by (cases h; exact ⟨by decide, fun v w h => h⟩)
              · exact fun g b h => by (cases h; exact ⟨by decide, fun v w h => h⟩)
              · exact fun g b h => by (cases h; exact ⟨by decide, fun v w h => h⟩)
              · exact fun g b h => by (cases h; exact ⟨by decide, fun v w h => h⟩)
              · exact fun g b h => by (cases h; exact ⟨by decide, fun v w h => h⟩)
              · exact fun g b h => by (cases h; exact ⟨by decide, fun v w h => h⟩)
              · exact fun g b h => by (cases h; exact ⟨by decide, fun v w h => h⟩)
              · exact fun g b h => by (cases h; exact ⟨by decide, fun v w h => h⟩)
              · exact fun g b h => by (cases h; exact ⟨by decide, fun v w h => h⟩)
              · exact fun g b h => by (cases h; exact ⟨by decide, fun v w h => h⟩)
              · exact fun g b h => by (cases h; exact ⟨by decide, fun v w h => h⟩)
              · exact fun g b h => by (cases h; exact ⟨by decide, fun v w h => h⟩)
              · exact fun g b h => by (cases h; exact ⟨by decide, fun v w h => h⟩)
              · exact fun g b h => by (cases h)
            · exact fun _ _ => keeps_refl wf
            · refine ⟨?_, ?_, ?_, ?_, ?_, ?_, ?_, ?_, ?_, ?_, ?_, ?_, ?_, ?_, ?_, ?_, ?_, ?_, trivial⟩
              · intro _ a w1 vs hI ho hn hu K hK
                have e4 : a.tmps[4]? = some (.pointer (some ⟨F, 0, none⟩)) := ho 4 rfl
                clear hn ho hu
                have c0 := keeps_cell hI E0.out
                have c1 := keeps_cell hI E1.out
                have c2 := keeps_cell hI E2.out
                have c3 := keeps_cell hI E3.out
                go_simp
                exact hK _ _ (keeps_refl _) hI rfl
              · intro _ a w1 vs hI ho hn hu K hK
                obtain ⟨e12, g12⟩ : a.tmps[12]? = some (vs 0) ∧ vs 0 = .agg #[.string n, .bool d, .int .i64 z, .slice pc m qc] := hn 0 (by decide)
                rw [g12] at e12
                clear g12
                clear hn ho hu
                go_simp
                refine Calls.mono (HMAY.out _ (SeqAt.keeps HTX.out hI)) ?_
                rintro e w' ⟨rfl, hk2⟩
                go_simp
                exact hK _ _ hk2 (Keeps.trans hI hk2) rfl
              · intro _ a w1 vs hI ho hn hu K hK
                obtain ⟨e13, g13⟩ : a.tmps[13]? = some (vs 1) ∧ vs 1 = .bool true := hn 1 (by decide)
                rw [g13] at e13
                clear g13
                clear hn ho hu
                go_simp
                exact hK _ _ (keeps_refl _) hI rfl
              · intro _ a w1 vs hI ho hn hu K hK
                obtain ⟨e14, g14⟩ : a.tmps[14]? = some (vs 2) ∧ vs 2 = .bool false := hn 2 (by decide)
                rw [g14] at e14
                clear g14
                clear hn ho hu
                go_simp
                exact hK _ _ (keeps_refl _) hI rfl
              · intro _ a w1 vs hI ho hn hu K hK
                have e3 : a.tmps[3]? = some (.int .i64 (k : Int)) := ho 3 rfl
                clear hn ho hu
                go_simp
                exact hK _ _ (keeps_refl _) hI rfl
              · intro _ a w1 vs hI ho hn hu K hK
                obtain ⟨e16, g16⟩ : a.tmps[16]? = some (vs 4) ∧ vs 4 = .int .i64 (k : Int) := hn 4 (by decide)
                rw [g16] at e16
                clear g16
                clear hn ho hu
                have q1 := HG.out.1
                have q2 := HG.out.2
                go_simp
                exact hK _ _ (keeps_refl _) hI rfl
              · intro _ a w1 vs hI ho hn hu K hK
                obtain ⟨e17, g17⟩ : a.tmps[17]? = some (vs 5) ∧ vs 5 = .bool true := hn 5 (by decide)
                rw [g17] at e17
                clear g17
                clear hn ho hu
                go_simp
                exact hK _ _ (keeps_refl _) hI rfl
              · intro _ a w1 vs hI ho hn hu K hK
                have e0 : a.tmps[0]? = some (.slice (some ⟨b1, o1, none⟩) l.length q) := ho 0 rfl
                clear hn ho hu
                go_simp
                exact hK _ _ (keeps_refl _) hI rfl
              · intro _ a w1 vs hI ho hn hu K hK
                have e3 : a.tmps[3]? = some (.int .i64 (k : Int)) := ho 3 rfl
                clear hn ho hu
                go_simp
                exact hK _ _ (keeps_refl _) hI rfl
              · intro _ a w1 vs hI ho hn hu K hK
                obtain ⟨e20, g20⟩ : a.tmps[20]? = some (vs 8) ∧ vs 8 = .int .i64 (k : Int) := hn 8 (by decide)
                rw [g20] at e20
                clear g20
                clear hn ho hu
                have q1 := HW.out.resolve_left HK0.out
                go_simp
                exact hK _ _ (keeps_refl _) hI rfl
              · intro _ a w1 vs hI ho hn hu K hK
                obtain ⟨e19, g19⟩ : a.tmps[19]? = some (vs 7) ∧ vs 7 = .slice (some ⟨b1, o1, none⟩) l.length q := hn 7 (by decide)
                rw [g19] at e19
                clear g19
                obtain ⟨e21, g21⟩ : a.tmps[21]? = some (vs 9) ∧ vs 9 = .int .i64 (kp : Int) := hn 9 (by decide)
                rw [g21] at e21
                clear g21
                clear hn ho hu
                have i1 := HB.out.1
                have i2 := HB.out.2
                go_simp
                exact hK _ _ (keeps_refl _) hI rfl
              · intro _ a w1 vs hI ho hn hu K hK
                obtain ⟨e22, g22⟩ : a.tmps[22]? = some (vs 10) ∧ vs 10 = .pointer (some ⟨b1, o1 + kp * 4, none⟩) := hn 10 (by decide)
                rw [g22] at e22
                clear g22
                clear hn ho hu
                go_simp
                exact hK _ _ (keeps_refl _) hI rfl
              · intro _ a w1 vs hI ho hn hu K hK
                obtain ⟨e23, g23⟩ : a.tmps[23]? = some (vs 11) ∧ vs 11 = .pointer (some ⟨b1, o1 + kp * 4, none⟩) := hn 11 (by decide)
                rw [g23] at e23
                clear g23
                clear hn ho hu
                have c0 := keeps_cell hI Q0.out
                go_simp
                exact hK _ _ (keeps_refl _) hI rfl
              · intro _ a w1 vs hI ho hn hu K hK
                have e4 : a.tmps[4]? = some (.pointer (some ⟨F, 0, none⟩)) := ho 4 rfl
                clear hn ho hu
                go_simp
                exact hK _ _ (keeps_refl _) hI rfl
              · intro _ a w1 vs hI ho hn hu K hK
                obtain ⟨e25, g25⟩ : a.tmps[25]? = some (vs 13) ∧ vs 13 = .pointer (some ⟨F, 0, none⟩) := hn 13 (by decide)
                rw [g25] at e25
                clear g25
                clear hn ho hu
                have c0 := keeps_cell hI E0.out
                go_simp
                exact hK _ _ (keeps_refl _) hI rfl
              · intro _ a w1 vs hI ho hn hu K hK
                obtain ⟨e24, g24⟩ : a.tmps[24]? = some (vs 12) ∧ vs 12 = .string Pn := hn 12 (by decide)
                rw [g24] at e24
                clear g24
                obtain ⟨e26, g26⟩ : a.tmps[26]? = some (vs 14) ∧ vs 14 = .string n := hn 14 (by decide)
                rw [g26] at e26
                clear g26
                clear hn ho hu
                have q1 := HGE.out
                go_simp
                exact hK _ _ (keeps_refl _) hI rfl
              · intro _ a w1 vs hI ho hn hu K hK
                obtain ⟨e18, g18⟩ : a.tmps[18]? = some (vs 6) ∧ vs 6 = .bool true := hn 6 (by decide)
                rw [g18] at e18
                clear g18
                obtain ⟨e27, g27⟩ : a.tmps[27]? = some (vs 15) ∧ vs 15 = .bool false := hn 15 (by decide)
                rw [g27] at e27
                clear g27
                clear hn ho hu
                go_simp
                exact hK _ _ (keeps_refl _) hI rfl
              · intro _ a w1 vs hI ho hn hu K hK
                obtain ⟨e15, g15⟩ : a.tmps[15]? = some (vs 3) ∧ vs 3 = .bool false := hn 3 (by decide)
                rw [g15] at e15
                clear g15
                obtain ⟨e28, g28⟩ : a.tmps[28]? = some (vs 16) ∧ vs 16 = .bool false := hn 16 (by decide)
                rw [g28] at e28
                clear g28
                clear hn ho hu
                go_simp
                exact hK _ _ (keeps_refl _) hI rfl
            · intro vs wE hI hG
              have eL17 : vs 17 = .bool false := hG 17 (by decide)
              have HKE := Lib.hid hI
              clear hG hI
              simp only [setAll, Nat.zero_add, Nat.reduceAdd, List.setIfInBounds_toArray, List.set_cons_zero, List.set_cons_succ, eL17]
              clear eL17
              generalize vs 0 = y0 at *
              generalize vs 1 = y1 at *
              generalize vs 2 = y2 at *
              generalize vs 3 = y3 at *
              generalize vs 4 = y4 at *
              generalize vs 5 = y5 at *
              generalize vs 6 = y6 at *
              generalize vs 7 = y7 at *
              generalize vs 8 = y8 at *
              generalize vs 9 = y9 at *
              generalize vs 10 = y10 at *
              generalize vs 11 = y11 at *
              generalize vs 12 = y12 at *
              generalize vs 13 = y13 at *
              generalize vs 14 = y14 at *
              generalize vs 15 = y15 at *
              generalize vs 16 = y16 at *
              have HKW := Lib.hid (HKF.out.trans HKE.out)
              clear HKE
              go_wp2_with fail
              refine ⟨?_, by simp [intOf]; omega⟩
              first | exact ⟨k + 1, by omega, by go_num, HN3, HKW⟩ | ((repeat apply Exists.intro); exact ⟨⟨k + 1, by omega, by go_num, HN3, HKW⟩, rfl⟩)
    · obtain rfl : k = l.length := by omega
      have HT : Hid (mayL l = decide (l.length ≤ 256)) := by
        show _ = _
        unfold mayL
        rw [List.all_eq_true.2 fun i hi => hN.out i (List.mem_range.1 hi), Bool.and_true]
      by_cases h256 : l.length ≤ 256
      · have g1 : decide ((l.length : Int) ≤ 256) = true := decide_eq_true (by omega)
        rw [decide_eq_true h256] at HT
        clear h256
        go_wp2_with fail
        go_ret
        exact ⟨by rw [HT.out]; rfl, hK.out⟩
      · have g1 : decide ((l.length : Int) ≤ 256) = false := decide_eq_false (by omega)
        rw [decide_eq_false h256] at HT
        clear h256
        go_wp2_with fail
        go_ret
        exact ⟨by rw [HT.out]; rfl, hK.out⟩
end Go.Proofs.YtdpfanifagfciaaDoor
