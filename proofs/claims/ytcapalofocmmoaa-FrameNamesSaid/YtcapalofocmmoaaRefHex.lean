/- The walks of the reference's digit, number, Hex and Unhex. -/
import Derived.Test.YtcapalofocmmoaaRefSums
import Derived.Test.YtcapalofocmmoaaShaHexW
namespace Go.Proofs.Ytcapalofocmmoaa
open Go.RowKit
theorem refdigit_any (n : Nat) (w : World) (h : n < 16) : Calls Try.prog 45 #[.int .u8 (n : Int)] w fun e w' => e = .returned (.int .u8 ((SH.hexd n).toNat : Int)) ∧ w = w' := by
  by_cases h10 : n < 10
  · have g1 : (n : Int) < 10 := by omega
    have HE : Hid ((48 : Int) + (n : Int) = ((SH.hexd n).toNat : Int)) := by
      show _ = _
      unfold SH.hexd
      rw [if_pos h10, UInt8.toNat_ofNat']; omega
    go_enter Try.func45, Try.ntmps45
    go_wp2
    go_ret
    exact ⟨by rw [← HE.out]; rfl, rfl⟩
  · have g1 : 10 ≤ (n : Int) := by omega
    have HE : Hid ((87 : Int) + (n : Int) = ((SH.hexd n).toNat : Int)) := by
      show _ = _
      unfold SH.hexd
      rw [if_neg h10, UInt8.toNat_ofNat']; omega
    have HE2 : Hid ((97 : Int) + (n : Int) - 10 = 87 + (n : Int)) := by show _ = _; omega
    go_enter Try.func45, Try.ntmps45
    go_wp2
    go_ret
    exact ⟨by rw [← HE.out, ← HE2.out]; rfl, rfl⟩
def hex5 (s : ByteArray) (D : List UInt8) (x : UInt8) (k nd : Nat) (pd : Option Addr) (qd N : Nat) : Nat → Value → World → Prop
  | 11, v, w => SeqIn (N ≤ ·) 5 IsByte w.heap v [SH.hexd (x.toNat / 16), SH.hexd (x.toNat % 16)]
  | 12, _, _ => True
  | 13, _, _ => True
  | i, v, _ => v = ([.slice pd nd qd, .string s, .int .i64 (k : Int), .int .u8 (x.toNat : Int), .int .u8 ((x.toNat / 16 : Nat) : Int), .int .u8 ((SH.hexd (x.toNat / 16)).toNat : Int), .string s, .int .i64 (k : Int), .int .u8 (x.toNat : Int), .int .u8 ((x.toNat % 16 : Nat) : Int), .int .u8 ((SH.hexd (x.toNat % 16)).toNat : Int), undef, undef, undef] : List Value).getD i undef
theorem hex5_chg {s : ByteArray} {D : List UInt8} {x : UInt8} {k nd : Nat} {pd : Option Addr} {qd N : Nat} (i : Nat) (v : Value) (w w' : World) (c : Chg (fun b => b < N) w w') (h : hex5 s D x k nd pd qd N i v w) : hex5 s D x k nd pd qd N i v w' := by
  match i, h with
  | 0, h => exact h
  | 1, h => exact h
  | 2, h => exact h
  | 3, h => exact h
  | 4, h => exact h
  | 5, h => exact h
  | 6, h => exact h
  | 7, h => exact h
  | 8, h => exact h
  | 9, h => exact h
  | 10, h => exact h
  | 11, h => exact SeqIn.chg h c (fun b _ hs _ x => Nat.lt_irrefl _ (Nat.lt_of_lt_of_le x hs)) fun _ _ _ r => r
  | 12, h => exact h
  | 13, h => exact h
  | _ + 14, h => exact h
def hex5_I (w wr : World) (D : List UInt8) (x : UInt8) (vo : Value) : Nat → (Nat → Value) → World → Prop
  | 0, _, w' => OwnG w.heap.size 5 IsByte w'.heap vo D ∧ Keeps wr w'
  | 1, vs, w' => OwnG w.heap.size 5 IsByte w'.heap (vs 12) (D ++ [SH.hexd (x.toNat / 16), SH.hexd (x.toNat % 16)]) ∧ Keeps w w'
  | _, vs, w' => OwnG w.heap.size 5 IsByte w'.heap (vs 13) (D ++ [SH.hexd (x.toNat / 16), SH.hexd (x.toNat % 16)]) ∧ Keeps w w'
set_option maxRecDepth 100000 in
set_option maxHeartbeats 4000000 in
theorem refhex_any (s : ByteArray) (w : World) (hs : s.size ≤ 1000000) : Calls Try.prog 25 #[.string s] w fun e w' => e = .returned (.string (strB (SH.hexB s.data.toList))) ∧ Keeps w w' := by
  go_enter Try.func25, Try.ntmps25
  go_wp2_with fail
  go_loopw [3, 4] (fun v i wr => ∃ k : Nat, k ≤ s.size ∧ i = .int .i64 k ∧ Hid (OwnG w.heap.size 5 IsByte wr.heap v (SH.hexB (s.data.toList.take k))) ∧ Hid (Keeps w wr)) (fun _ i _ => s.size - (intOf i).toNat)
  case atStart => exact ⟨0, by omega, rfl, OwnG.nil _ _ _ _, keeps_refl w⟩
  case round =>
    obtain ⟨k, hk, rfl, hO, hK⟩ := hrel
    obtain ⟨pd, qd, rfl⟩ := own_shape hO.out
    have HW : Hid (w.heap.size ≤ wr.heap.size) := hK.out.size
    by_cases hlt : k < s.size
    · have i1 : (k : Int) < (s.size : Int) := by omega
      have i0 : (0 : Int) ≤ (k : Int) := by omega
      have HDS : Hid (SH.hexB (s.data.toList.take (k + 1)) = SH.hexB (s.data.toList.take k) ++ [SH.hexd (s[k].toNat / 16), SH.hexd (s[k].toNat % 16)]) := by
        show _ = _
        rw [take_snoc_b s k hlt, SH.hexB_snoc]; rfl
      have HDL : Hid ((SH.hexB (s.data.toList.take k)).length ≤ 2000000) := by show _ ≤ _; rw [SH.hexB_length, List.length_take, data_size]; omega
      obtain ⟨x, hx⟩ : ∃ x, s[k] = x := ⟨_, rfl⟩
      have HXE := Lib.hid hx
      rw [hx] at HDS
      clear hx
      have hx8 := UInt8.toNat_lt x
      have W15 : Hid (IntKind.u8.wrap ((x.toNat : Int) / 16) = ((x.toNat / 16 : Nat) : Int)) := by
        show _ = _
        have e : (x.toNat : Int) / 16 = ((x.toNat / 16 : Nat) : Int) := by omega
        rw [e]; exact IntWalk.u8_in _ (by omega)
      have W20 : Hid ((x.toNat : Int) % 16 = ((x.toNat % 16 : Nat) : Int)) := by show _ = _; omega
      have HFL : Hid ([SH.hexd (x.toNat / 16), SH.hexd (x.toNat % 16)].length = 2 ∧ 2 ≤ 1000000) := ⟨rfl, by omega⟩
      have HFE : Hid (∀ i (hi : i < [SH.hexd (x.toNat / 16), SH.hexd (x.toNat % 16)].length), ∃ u, (#[.int .u8 ((SH.hexd (x.toNat / 16)).toNat : Int), .int .u8 ((SH.hexd (x.toNat % 16)).toNat : Int)] : Array Value)[i]? = some u ∧ IsByte u [SH.hexd (x.toNat / 16), SH.hexd (x.toNat % 16)][i]) := fun i hi => by
        match i, hi with
        | 0, _ => exact ⟨_, rfl, rfl⟩
        | 1, _ => exact ⟨_, rfl, rfl⟩
        | n + 2, h => simp at h; omega
      have HSZ : Hid (∀ w1 : World, Keeps wr w1 → wr.heap.size ≤ w1.heap.size) := fun _ h => h.size
      generalize SH.hexB (s.data.toList.take k) = D at *
      generalize hnd : D.length = nd at *
      have HDL2 := Lib.hid hnd
      have HLT : Hid (∀ b, (Value.slice pd nd qd).ownBlock = some b → b < wr.heap.size) := fun b hb => (hO.out.lt hb).2.1
      have HKR := hK
      obtain ⟨N, hN⟩ : ∃ N, N = wr.heap.size := ⟨_, rfl⟩
      rw [← hN] at HLT HSZ
      have HO := hO
      have HK := hK
      rw [← hnd] at HDL
      clear hN hO hK hnd
      go_wp2_with fail
      refine wp_region_stage [11, 12, 13, 14, 15, 16, 17, 18, 19, 20, 21, 22, 23, 3] [[], [], [], [1, 2], [3], [4], [], [], [6, 7], [8], [9], [5, 10], [0, 11], [12]] [12, 13] [0, 0, 0, 0, 0, 0, 0, 0, 0, 0, 0, 0, 0, 1] [] (hex5 s D x k nd pd qd N) (fun w w' => Chg (fun b => b < N) w w') (hex5_I w wr D x (.slice pd nd qd)) (by kernel_rfl) (by kernel_rfl) (by kernel_rfl) (by kernel_rfl) (by kernel_rfl) (by kernel_rfl) (by kernel_rfl) ?_ ?_ ?_ ?_ ?_ ?_ ?_
      · exact fun i v w w' c h => hex5_chg i v w w' c h
      · exact fun w => Chg.refl _ w
      · exact fun i s vs w h => by cases h
      · refine ⟨?_, ?_, ?_, ?_, ?_, ?_, ?_, ?_, ?_, ?_, ?_, ?_, ?_, ?_, trivial⟩
        · exact fun g b h => by (cases h)
        · exact fun g b h => by (cases h)
        · exact fun g b h => by (cases h)
        · exact fun g b h => by (cases h)
        · exact fun g b h => by (cases h)
        · exact fun g b h => by (cases h)
        · exact fun g b h => by (cases h)
        · exact fun g b h => by (cases h)
        · exact fun g b h => by (cases h)
        · exact fun g b h => by (cases h)
        · exact fun g b h => by (cases h)
        · exact fun g b h => by (cases h)
        · exact fun g b h => by (cases h)
        · exact fun g b h => by (cases h)
      · exact fun _ _ => ⟨HO.out, keeps_refl wr⟩
      · refine ⟨?_, ?_, ?_, ?_, ?_, ?_, ?_, ?_, ?_, ?_, ?_, ?_, ?_, ?_, trivial⟩
        · intro _ a w1 vs hI ho hn hu K hK
          have e3 : a.tmps[3]? = some (.slice pd nd qd) := hu 13 (by decide) (by decide)
          clear hn ho hu
          have hI : OwnG w.heap.size 5 IsByte w1.heap (.slice pd nd qd) D ∧ Keeps wr w1 := hI
          go_simp
          exact hK _ _ (Chg.refl _ _) hI rfl
        · intro _ a w1 vs hI ho hn hu K hK
          have e0 : a.tmps[0]? = some (.string s) := ho 0 rfl
          clear hn ho hu
          have hI : OwnG w.heap.size 5 IsByte w1.heap (.slice pd nd qd) D ∧ Keeps wr w1 := hI
          go_simp
          exact hK _ _ (Chg.refl _ _) hI rfl
        · intro _ a w1 vs hI ho hn hu K hK
          have e4 : a.tmps[4]? = some (.int .i64 (k : Int)) := ho 4 rfl
          clear hn ho hu
          have hI : OwnG w.heap.size 5 IsByte w1.heap (.slice pd nd qd) D ∧ Keeps wr w1 := hI
          go_simp
          exact hK _ _ (Chg.refl _ _) hI rfl
        · intro _ a w1 vs hI ho hn hu K hK
          obtain ⟨e12, g12⟩ : a.tmps[12]? = some (vs 1) ∧ vs 1 = .string s := hn 1 (by decide)
          rw [g12] at e12
          clear g12
          obtain ⟨e13, g13⟩ : a.tmps[13]? = some (vs 2) ∧ vs 2 = .int .i64 (k : Int) := hn 2 (by decide)
          rw [g13] at e13
          clear g13
          clear hn ho hu
          have hI : OwnG w.heap.size 5 IsByte w1.heap (.slice pd nd qd) D ∧ Keeps wr w1 := hI
          go_simp
          rw [HXE.out]
          exact hK _ _ (Chg.refl _ _) hI rfl
        · intro _ a w1 vs hI ho hn hu K hK
          obtain ⟨e14, g14⟩ : a.tmps[14]? = some (vs 3) ∧ vs 3 = .int .u8 (x.toNat : Int) := hn 3 (by decide)
          rw [g14] at e14
          clear g14
          clear hn ho hu
          have hI : OwnG w.heap.size 5 IsByte w1.heap (.slice pd nd qd) D ∧ Keeps wr w1 := hI
          go_simp
          first | exact hK _ _ (Chg.refl _ _) hI rfl | (rw [W15.out]; exact hK _ _ (Chg.refl _ _) hI rfl)
        · intro _ a w1 vs hI ho hn hu K hK
          obtain ⟨e15, g15⟩ : a.tmps[15]? = some (vs 4) ∧ vs 4 = .int .u8 ((x.toNat / 16 : Nat) : Int) := hn 4 (by decide)
          rw [g15] at e15
          clear g15
          clear hn ho hu
          have hI : OwnG w.heap.size 5 IsByte w1.heap (.slice pd nd qd) D ∧ Keeps wr w1 := hI
          go_simp
          refine Calls.mono (refdigit_any (x.toNat / 16) _ (by omega)) ?_
          rintro e w' ⟨rfl, rfl⟩
          go_simp
          exact hK _ _ (Chg.refl _ _) hI rfl
        · intro _ a w1 vs hI ho hn hu K hK
          have e0 : a.tmps[0]? = some (.string s) := ho 0 rfl
          clear hn ho hu
          have hI : OwnG w.heap.size 5 IsByte w1.heap (.slice pd nd qd) D ∧ Keeps wr w1 := hI
          go_simp
          exact hK _ _ (Chg.refl _ _) hI rfl
        · intro _ a w1 vs hI ho hn hu K hK
          have e4 : a.tmps[4]? = some (.int .i64 (k : Int)) := ho 4 rfl
          clear hn ho hu
          have hI : OwnG w.heap.size 5 IsByte w1.heap (.slice pd nd qd) D ∧ Keeps wr w1 := hI
          go_simp
          exact hK _ _ (Chg.refl _ _) hI rfl
        · intro _ a w1 vs hI ho hn hu K hK
          obtain ⟨e17, g17⟩ : a.tmps[17]? = some (vs 6) ∧ vs 6 = .string s := hn 6 (by decide)
          rw [g17] at e17
          clear g17
          obtain ⟨e18, g18⟩ : a.tmps[18]? = some (vs 7) ∧ vs 7 = .int .i64 (k : Int) := hn 7 (by decide)
          rw [g18] at e18
          clear g18
          clear hn ho hu
          have hI : OwnG w.heap.size 5 IsByte w1.heap (.slice pd nd qd) D ∧ Keeps wr w1 := hI
          go_simp
          rw [HXE.out]
          exact hK _ _ (Chg.refl _ _) hI rfl
        · intro _ a w1 vs hI ho hn hu K hK
          obtain ⟨e19, g19⟩ : a.tmps[19]? = some (vs 8) ∧ vs 8 = .int .u8 (x.toNat : Int) := hn 8 (by decide)
          rw [g19] at e19
          clear g19
          clear hn ho hu
          have hI : OwnG w.heap.size 5 IsByte w1.heap (.slice pd nd qd) D ∧ Keeps wr w1 := hI
          go_simp
          first | exact hK _ _ (Chg.refl _ _) hI rfl | (rw [W20.out]; exact hK _ _ (Chg.refl _ _) hI rfl)
        · intro _ a w1 vs hI ho hn hu K hK
          obtain ⟨e20, g20⟩ : a.tmps[20]? = some (vs 9) ∧ vs 9 = .int .u8 ((x.toNat % 16 : Nat) : Int) := hn 9 (by decide)
          rw [g20] at e20
          clear g20
          clear hn ho hu
          have hI : OwnG w.heap.size 5 IsByte w1.heap (.slice pd nd qd) D ∧ Keeps wr w1 := hI
          go_simp
          refine Calls.mono (refdigit_any (x.toNat % 16) _ (by omega)) ?_
          rintro e w' ⟨rfl, rfl⟩
          go_simp
          exact hK _ _ (Chg.refl _ _) hI rfl
        · intro _ a w1 vs hI ho hn hu K hK
          obtain ⟨e16, g16⟩ : a.tmps[16]? = some (vs 5) ∧ vs 5 = .int .u8 ((SH.hexd (x.toNat / 16)).toNat : Int) := hn 5 (by decide)
          rw [g16] at e16
          clear g16
          obtain ⟨e21, g21⟩ : a.tmps[21]? = some (vs 10) ∧ vs 10 = .int .u8 ((SH.hexd (x.toNat % 16)).toNat : Int) := hn 10 (by decide)
          rw [g21] at e21
          clear g21
          clear hn ho hu
          have hI : OwnG w.heap.size 5 IsByte w1.heap (.slice pd nd qd) D ∧ Keeps wr w1 := hI
          go_simp
          exact hK _ _ (Kept.any (kal _ _)) ⟨hI.1.keeps (kal _ _), hI.2.trans (kal _ _)⟩ (seqIn_lit w1 (#[.int .u8 ((SH.hexd (x.toNat / 16)).toNat : Int), .int .u8 ((SH.hexd (x.toNat % 16)).toNat : Int)] : Array Value) 5 [SH.hexd (x.toNat / 16), SH.hexd (x.toNat % 16)] (HSZ.out _ hI.2) HFL.out HFE.out)
        · intro _ a w1 vs hI ho hn hu K hK
          obtain ⟨e11, g11⟩ : a.tmps[11]? = some (vs 0) ∧ vs 0 = .slice pd nd qd := hn 0 (by decide)
          rw [g11] at e11
          clear g11
          obtain ⟨e22, g22⟩ : a.tmps[22]? = some (vs 11) ∧ SeqIn (N ≤ ·) 5 IsByte w1.heap (vs 11) [SH.hexd (x.toNat / 16), SH.hexd (x.toNat % 16)] := hn 11 (by decide)
          clear hn ho hu
          have hI : OwnG w.heap.size 5 IsByte w1.heap (.slice pd nd qd) D ∧ Keeps wr w1 := hI
          refine oper_appG elByte (R := IsByte) (l := D) (m := [SH.hexd (x.toNat / 16), SH.hexd (x.toNat % 16)]) (fun u x h => by rw [h]; rfl) (.tmp 11) (.tmp 22) rfl w.heap.size (.slice pd nd qd) (by simp [Act.eval, e11]) hI.1 (vs 11) (by simp [Act.eval, e22]) (SeqIn.at_ g22) (by have := HDL.out; simp; omega) (Nat.le_trans HW.out hI.2.size) ?_
          intro v' w' ho hc _
          exact hK v' w' (hc.mono fun b _ hb => HLT.out b hb) ⟨by rw [upd_self]; exact ho, own_then hI.1 (HKR.out.trans hI.2) (Nat.le_refl _) (Nat.le_trans HW.out hI.2.size) hc⟩ trivial
        · intro _ a w1 vs hI ho hn hu K hK
          obtain ⟨e23, g23⟩ : a.tmps[23]? = some (vs 12) ∧ True := hn 12 (by decide)
          clear hn ho hu
          have hI : OwnG w.heap.size 5 IsByte w1.heap (vs 12) (D ++ [SH.hexd (x.toNat / 16), SH.hexd (x.toNat % 16)]) ∧ Keeps w w1 := hI
          go_simp
          exact hK _ _ (Chg.refl _ _) ⟨by rw [upd_self]; exact hI.1, hI.2⟩ trivial
      · intro vs w4 hI hG
        have hI : OwnG w.heap.size 5 IsByte w4.heap (vs 13) (D ++ [SH.hexd (x.toNat / 16), SH.hexd (x.toNat % 16)]) ∧ Keeps w w4 := hI
        clear hG
        simp only [setAll, Nat.zero_add, Nat.reduceAdd, List.setIfInBounds_toArray, List.set_cons_zero, List.set_cons_succ]
        have HO4 : Hid (OwnG w.heap.size 5 IsByte w4.heap (vs 13) (SH.hexB (s.data.toList.take (k + 1)))) := by
          show OwnG _ _ _ _ _ _
          rw [HDS.out]; exact hI.1
        have HK4 : Hid (Keeps w w4) := hI.2
        clear hI
        generalize vs 0 = y0 at *
        generalize vs 1 = y1 at *
        generalize vs 2 = y2 at *
        generalize vs 3 = y3 at *
        generalize vs 4 = y4 at *
        generalize vs 5 = y5 at *
        generalize vs 6 = y6 at *
        generalize vs 7 = y7 at *
        generalize vs 8 = y8 at *
        generalize vs 9 = y9 at *
        generalize vs 10 = y10 at *
        generalize vs 11 = y11 at *
        generalize vs 12 = y12 at *
        generalize vs 13 = y13 at *
        clear HO HK HSZ HLT HKR
        go_wp2_with fail
        exact ⟨⟨k + 1, by omega, by go_num, HO4, HK4⟩, by simp [intOf]; omega⟩
    · obtain rfl : k = s.size := by omega
      have HRA : Hid (RowAt wr.heap (.slice pd (SH.hexB (s.data.toList.take s.size)).length qd) (SH.hexB (s.data.toList.take s.size))) := SeqIn.at_ hO.out.seq
      have HTX : Hid (SH.hexB (s.data.toList.take s.size) = SH.hexB s.data.toList) := by show _ = _; rw [List.take_of_length_le (by rw [data_size]; exact Nat.le_refl _)]
      rw [HTX.out] at HRA ⊢
      have hcv := conv_row (P := Try.prog) (src := 59) (dst := 9) (e := 5) Try.underlying59 (by kernel_rfl) Try.underlying9 HRA.out
      go_wp2_with fail
      go_ret
      exact ⟨rfl, hK.out⟩
end Go.Proofs.Ytcapalofocmmoaa
