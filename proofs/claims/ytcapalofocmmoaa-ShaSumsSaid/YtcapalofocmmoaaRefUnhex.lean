/- The walks of the reference's number and Unhex. -/
import Derived.Test.YtcapalofocmmoaaRefHex
namespace Go.Proofs.Ytcapalofocmmoaa
open Go.RowKit
set_option maxRecDepth 100000 in
set_option maxHeartbeats 4000000 in
theorem refnumber_any (c : UInt8) (w : World) : Calls Try.prog 44 #[.int .u8 (c.toNat : Int)] w fun e w' => e = .returned (.int .u8 (SH.numH c : Int)) ∧ w = w' := by
  go_enter Try.func44, Try.ntmps44
  go_wp2_with fail
  go_loopw [3] (fun i wr => ∃ k : Nat, k ≤ 16 ∧ i = .int .u8 k ∧ Hid (∀ j, j < k → SH.hexd j ≠ c) ∧ w = wr) (fun i _ => 16 - (intOf i).toNat)
  case atStart => exact ⟨0, by omega, rfl, fun j h => absurd h (Nat.not_lt_zero _), rfl⟩
  case round =>
    obtain ⟨k, hk, rfl, hN, rfl⟩ := hrel
    by_cases hlt : k < 16
    · have i1 : (k : Int) < 16 := by omega
      go_wp2_with fail
      refine Calls.mono (refdigit_any k _ hlt) ?_
      rintro e w1 ⟨rfl, rfl⟩
      by_cases he : SH.hexd k = c
      · have g1 : decide (((SH.hexd k).toNat : Int) = (c.toNat : Int)) = true := decide_eq_true (by rw [he])
        have g2 : (((SH.hexd k).toNat : Int) == (c.toNat : Int)) = true := by rw [he]; simp
        have HC : Hid (SH.numH c = k) := by show _ = _; rw [← he, SH.numH_hexd hlt]
        go_wp2_with fail
        go_ret
        exact ⟨by rw [HC.out]; rfl, rfl⟩
      · have hne : ((SH.hexd k).toNat : Int) ≠ (c.toNat : Int) := fun x => he (UInt8.toNat_inj.1 (by omega))
        have g1 : decide (((SH.hexd k).toNat : Int) = (c.toNat : Int)) = false := decide_eq_false hne
        have g2 : (((SH.hexd k).toNat : Int) == (c.toNat : Int)) = false := beq_false_of_ne hne
        have HN2 : Hid (∀ j, j < k + 1 → SH.hexd j ≠ c) := fun j hj => by
          rcases Nat.lt_or_ge j k with h1 | h1
          · exact hN.out j h1
          · obtain rfl : j = k := by omega
            exact he
        go_wp2_with fail
        exact ⟨⟨k + 1, by omega, by go_num, HN2, by first | rfl | trivial⟩, by simp [intOf]; omega⟩
    · obtain rfl : k = 16 := by omega
      have HC : Hid (SH.numH c = 16) := by
        show _ = _
        rcases Nat.lt_or_ge (SH.numH c) 16 with h1 | h1
        · exact absurd (SH.hexd_numH h1) (hN.out _ h1)
        · have := SH.numH_le c; omega
      go_wp2_with fail
      go_ret
      exact ⟨by rw [HC.out]; rfl, rfl⟩
set_option maxRecDepth 100000 in
set_option maxHeartbeats 4000000 in
theorem refunhex_any (s : ByteArray) (w : World) (hs : s.size ≤ 1000000) : Calls Try.prog 22 #[.string s] w fun e w' => e = .returned (.tuple #[.string (unhexE s.data.toList).1, .int .i64 (unhexE s.data.toList).2]) ∧ Keeps w w' := by
  by_cases hodd : s.size % 2 = 1
  · have g1 : (s.size : Int) % 2 = 1 := by omega
    have g2 : (s.size : Int).tmod 2 = 1 := by rw [Int.tmod_eq_emod_of_nonneg (by omega)]; exact g1
    have HE : Hid (unhexE s.data.toList = (⟨#[]⟩, 4)) := by
      show _ = _
      unfold unhexE SH.unhexB; rw [data_size, if_pos hodd]
    clear hodd
    go_enter Try.func22, Try.ntmps22
    go_wp2_with fail
    go_ret2
    rw [HE.out]
    exact ⟨rfl, keeps_refl w⟩
  · have g1 : (s.size : Int) % 2 = 0 := by omega
    have g2 : (s.size : Int).tmod 2 = 0 := by rw [Int.tmod_eq_emod_of_nonneg (by omega)]; exact g1
    obtain ⟨m, hm⟩ : ∃ m, s.size = 2 * m := ⟨s.size / 2, by omega⟩
    have HM := Lib.hid hm
    have hmb : m ≤ 500000 := by omega
    have HU : Hid (SH.unhexB s.data.toList = SH.unh s.data.toList m) := by
      show _ = _
      unfold SH.unhexB; rw [data_size, if_neg hodd, hm, Nat.mul_div_cancel_left _ (by decide)]
    clear hodd hm
    go_enter Try.func22, Try.ntmps22
    go_wp2_with fail
    clear g1 g2
    go_loopw [4, 5] (fun v i wx => ∃ (k : Nat) (r : List UInt8), k ≤ m ∧ i = .int .i64 (2 * (k : Int)) ∧ Hid (SH.unh s.data.toList k = some r) ∧ Hid (OwnG w.heap.size 5 IsByte wx.heap v r) ∧ Hid (Keeps w wx)) (fun _ i _ => 2 * m - (intOf i).toNat)
    case atStart => exact ⟨0, [], by omega, rfl, rfl, OwnG.nil _ _ _ _, keeps_refl w⟩
    case round =>
      obtain ⟨k, r, hk, rfl, hr, hO, hK⟩ := hrel
      obtain ⟨pv, qv, rfl⟩ := own_shape hO.out
      have hsw : w.heap.size ≤ wr.heap.size := hK.out.size
      by_cases hlt : k < m
      · have i1 : 2 * (k : Int) < (s.size : Int) := by have := HM.out; omega
        have i2 : 2 * k < s.size := by have := HM.out; omega
        have i3 : 2 * k + 1 < s.size := by have := HM.out; omega
        have i4 : 2 * (k : Int) + 1 < (s.size : Int) := by omega
        have HC0 : Hid (SH.chr s.data.toList (2 * k) = s[2 * k]) := by
          show _ = _
          unfold SH.chr; rw [List.getD_eq_getElem?_getD, List.getElem?_eq_getElem (by rw [data_size]; exact i2)]; rfl
        have HC1 : Hid (SH.chr s.data.toList (2 * k + 1) = s[2 * k + 1]) := by
          show _ = _
          unfold SH.chr; rw [List.getD_eq_getElem?_getD, List.getElem?_eq_getElem (by rw [data_size]; exact i3)]; rfl
        have n1 : (2 * (k : Int)).toNat = 2 * k := by omega
        have n2 : (2 * (k : Int) + 1).toNat = 2 * k + 1 := by omega
        have v2 : IntKind.i64.wrap (2 * (k : Int) + 1) = 2 * (k : Int) + 1 := IntWalk.i64_in _ (by omega)
        have m2 : 0 ≤ 2 * (k : Int) + 1 := by omega
        have m1 : 0 ≤ 2 * (k : Int) := by omega
        have HRL := Lib.hid (SH.unh_length hr.out)
        have HE0 : Hid (∀ x y : UInt8, x = s[2 * k] → y = s[2 * k + 1] → SH.unh s.data.toList (k + 1) = if SH.numH x < 16 ∧ SH.numH y < 16 then some (r ++ [UInt8.ofNat (SH.numH x * 16 + SH.numH y)]) else none) := fun x y hx hy => by
          rw [SH.unh_succ hr.out, HC0.out, HC1.out, hx, hy]
        have HNO : Hid (SH.unh s.data.toList (k + 1) = none → unhexE s.data.toList = (⟨#[]⟩, 4)) := fun h => by
          unfold unhexE; rw [HU.out, SH.unh_more h (by omega)]
        go_wp2_with fail
        refine Calls.mono (refnumber_any s[2 * k] _) ?_
        rintro e wa ⟨rfl, rfl⟩
        go_wp2_with fail
        refine Calls.mono (refnumber_any s[2 * k + 1] _) ?_
        rintro e wb ⟨rfl, rfl⟩
        have HLA := Lib.hid (SH.numH_le s[2 * k])
        have HLB := Lib.hid (SH.numH_le s[2 * k + 1])
        have HS0 : Hid (SH.unh s.data.toList (k + 1) = if SH.numH s[2 * k] < 16 ∧ SH.numH s[2 * k + 1] < 16 then some (r ++ [UInt8.ofNat (SH.numH s[2 * k] * 16 + SH.numH s[2 * k + 1])]) else none) := HE0.out _ _ rfl rfl
        generalize SH.numH s[2 * k] = a at *
        generalize SH.numH s[2 * k + 1] = b at *
        have la := HLA.out
        have lb := HLB.out
        clear HE0 HC0 HC1
        by_cases ha : a < 16
        · have ga : (a : Int) ≤ 15 := by omega
          have ga2 : decide (15 < (a : Int)) = false := decide_eq_false (by omega)
          by_cases hb : b < 16
          · have gb : (b : Int) ≤ 15 := by omega
            have gb2 : decide (15 < (b : Int)) = false := decide_eq_false (by omega)
            have HS : Hid (SH.unh s.data.toList (k + 1) = some (r ++ [UInt8.ofNat (a * 16 + b)])) := by
              show _ = _
              rw [HS0.out, if_pos ⟨ha, hb⟩]
            have HBV : Hid (((a : Int) * 16 + (b : Int)) = ((UInt8.ofNat (a * 16 + b)).toNat : Int)) := by show _ = _; rw [UInt8.toNat_ofNat']; omega
            have hln : r.length + 1 ≤ 500001 := by rw [HRL.out]; omega
            generalize UInt8.ofNat (a * 16 + b) = z at *
            clear HS0 HNO
            go_wp2_with (at_builtin; refine wp_appG elByte (R := IsByte) (l := r) (m := [z]) (fun u x h => by rw [h]; rfl) rfl (.tmp 33) (.tmp 38) rfl w.heap.size _ rfl ?f1 _ rfl ?f2 ?f3 ?f4 ?_)
            case f1 => exact hO.out.keeps (kal _ _)
            case f2 =>
              rw [HBV.out]
              exact rowAt_lit _ [z] 1 1 rfl (by omega)
            case f3 => simp; omega
            case f4 => simp; omega
            intro v3 w3 ho3 hc3 _
            have HO3 := Lib.hid ho3
            have HK3 : Hid (Keeps w w3) := own_then (hO.out.keeps (kal _ _)) (hK.out.trans (kal _ _)) (Nat.le_refl _) (by simp; omega) hc3
            clear ho3 hc3 hO hK
            go_wp2_with fail
            exact ⟨⟨k + 1, _, by omega, by go_num, HS.out, HO3, HK3⟩, by simp [intOf]; omega⟩
          · have gb : 15 < (b : Int) := by omega
            have gb2 : decide (15 < (b : Int)) = true := decide_eq_true gb
            have HF := Lib.hid (HNO.out (by rw [HS0.out, if_neg (fun x => hb x.2)]))
            clear HS0 HNO
            go_wp2_with fail
            go_ret2
            rw [HF.out]
            exact ⟨rfl, hK.out⟩
        · have ga : 15 < (a : Int) := by omega
          have ga2 : decide (15 < (a : Int)) = true := decide_eq_true ga
          have HF := Lib.hid (HNO.out (by rw [HS0.out, if_neg (fun x => ha x.1)]))
          clear HS0 HNO
          go_wp2_with fail
          go_ret2
          rw [HF.out]
          exact ⟨rfl, hK.out⟩
      · obtain rfl : k = m := by omega
        have i1 : ¬ (2 * (k : Int) < (s.size : Int)) := by have := HM.out; omega
        have HF : Hid (unhexE s.data.toList = (strB r, 0)) := by
          show _ = _
          unfold unhexE; rw [HU.out, hr.out]
        have HRA : Hid (RowAt wr.heap (.slice pv r.length qv) r) := SeqIn.at_ hO.out.seq
        have hcv := conv_row (P := Try.prog) (src := 59) (dst := 9) (e := 5) Try.underlying59 (by kernel_rfl) Try.underlying9 HRA.out
        go_wp2_with fail
        go_ret2
        rw [HF.out]
        exact ⟨rfl, hK.out⟩
end Go.Proofs.Ytcapalofocmmoaa
