/- The walks of sha.Hex and sha.Unhex. -/
import Derived.Test.YtcapalofocmmoaaShaHex
import Derived.Test.YtcapalofocmmoaaBuild1
import Derived.Outline
namespace Go.Proofs.Ytcapalofocmmoaa
open Go.RowKit
theorem take_snoc_b (s : ByteArray) (k : Nat) (h : k < s.size) : s.data.toList.take (k + 1) = s.data.toList.take k ++ [s[k]] := by
  rw [List.take_succ_eq_append_getElem (by simpa using h)]; rfl
def hexD : ByteArray := ⟨#[48, 49, 50, 51, 52, 53, 54, 55, 56, 57, 97, 98, 99, 100, 101, 102]⟩
theorem hexd_at (n : Nat) (h : n < hexD.size) : hexD[n] = SH.hexd n := by
  have h16 : n = 0 ∨ n = 1 ∨ n = 2 ∨ n = 3 ∨ n = 4 ∨ n = 5 ∨ n = 6 ∨ n = 7 ∨ n = 8 ∨ n = 9 ∨ n = 10 ∨ n = 11 ∨ n = 12 ∨ n = 13 ∨ n = 14 ∨ n = 15 := by
    have : hexD.size = 16 := rfl
    omega
  rcases h16 with rfl | rfl | rfl | rfl | rfl | rfl | rfl | rfl | rfl | rfl | rfl | rfl | rfl | rfl | rfl | rfl <;> rfl
set_option maxRecDepth 100000 in
set_option maxHeartbeats 4000000 in
theorem hex_any (s : ByteArray) (w : World) (hs : s.size ≤ 1000000) : Calls Try.prog 24 #[.string s] w fun e w' => e = .returned (.string (strB (SH.hexB s.data.toList))) ∧ Keeps w w' := by
  have HB0 := Lib.hid (Bld.new w)
  have HK0 : Hid (Keeps w (w.alloc (.cells #[.pointer none, .slice none 0 0] 76))) := kal _ _
  go_enter Try.func24, Try.ntmps24
  go_wp2_with fail
  go_loopw [7] (fun i wx => ∃ k : Nat, k ≤ s.size ∧ i = .int .i64 k ∧ Hid (Bld w.heap.size w.heap.size (SH.hexB (s.data.toList.take k)) wx) ∧ Hid (Keeps w wx)) (fun i _ => s.size - (intOf i).toNat)
  case atStart => exact ⟨0, by omega, rfl, HB0, HK0⟩
  case round =>
    clear HB0 HK0
    obtain ⟨k, hk, rfl, hB, hK⟩ := hrel
    by_cases hlt : k < s.size
    · have HSN : Hid (SH.hexB (s.data.toList.take (k + 1)) = SH.hexB (s.data.toList.take k) ++ [SH.hexd (s[k].toNat / 16)] ++ [SH.hexd (s[k].toNat % 16)]) := by
        show _ = _
        rw [take_snoc_b s k hlt, SH.hexB_snoc, List.append_assoc]; rfl
      have hb := UInt8.toNat_lt s[k]
      have H1 := Lib.hid (hexd_at (s[k].toNat / 16) (by show _ < 16; omega))
      have H2 := Lib.hid (hexd_at (s[k].toNat % 16) (by show _ < 16; omega))
      have hln : (SH.hexB (s.data.toList.take k)).length + 1 ≤ 2000000 := by rw [SH.hexB_length, List.length_take, data_size]; omega
      go_wp2_with fail
      have e1 := H1.out
      unfold hexD at e1
      rw [e1]
      refine Calls.mono (wbyte_any w.heap.size w.heap.size _ (SH.hexd (s[k].toNat / 16)) _ hB.out (by omega) hK.out.size) ?_
      rintro e w1 ⟨rfl, hb1, k1⟩
      have HB1 := Lib.hid hb1
      have HK1 : Hid (Keeps w w1) := hK.out.then k1.1.kept (Nat.le_refl _)
      have hln1 : (SH.hexB (s.data.toList.take k) ++ [SH.hexd (s[k].toNat / 16)]).length + 1 ≤ 2000001 := by rw [List.length_append]; simp only [List.length_singleton]; omega
      clear hb1 k1 e1
      go_wp2_with fail
      have e2 := H2.out
      unfold hexD at e2
      rw [e2]
      refine Calls.mono (wbyte_any w.heap.size w.heap.size _ (SH.hexd (s[k].toNat % 16)) _ HB1.out (by omega) HK1.out.size) ?_
      rintro e w2 ⟨rfl, hb2, k2⟩
      have HB2 : Hid (Bld w.heap.size w.heap.size (SH.hexB (s.data.toList.take (k + 1))) w2) := by
        show Bld _ _ _ _
        rw [HSN.out]; exact hb2
      have HK2 : Hid (Keeps w w2) := HK1.out.then k2.1.kept (Nat.le_refl _)
      clear hb2 k2 e2 HB1 HK1 hB hK H1 H2 HSN
      go_wp2_with fail
      exact ⟨⟨k + 1, by omega, by go_num, HB2, HK2⟩, by simp [intOf]; omega⟩
    · obtain rfl : k = s.size := by omega
      have HB9 : Hid (Bld w.heap.size w.heap.size (SH.hexB s.data.toList) wr) := by
        have := hB.out
        rwa [List.take_of_length_le (by rw [data_size]; exact Nat.le_refl _)] at this
      clear hB
      go_wp2_with fail
      refine Calls.mono (btext_any w.heap.size w.heap.size _ _ HB9.out hK.out.size) ?_
      rintro e w8 ⟨rfl, _, k8⟩
      have HK8 : Hid (Keeps w w8) := hK.out.then k8.1.kept (Nat.le_refl _)
      clear k8
      go_wp2
      go_ret
      exact ⟨rfl, HK8.out⟩
/-- The place of a byte among the digits; -1: it is none. -/
def idxH (c : UInt8) : Int := if SH.numH c < 16 then (SH.numH c : Int) else -1
theorem idxH_at (c : UInt8) : Lib.indexByte [48, 49, 50, 51, 52, 53, 54, 55, 56, 57, 97, 98, 99, 100, 101, 102] c = idxH c := by
  have : ∀ m < 256, Lib.indexByte [48, 49, 50, 51, 52, 53, 54, 55, 56, 57, 97, 98, 99, 100, 101, 102] (UInt8.ofNat m) = idxH (UInt8.ofNat m) := by decide +kernel
  have h2 := this c.toNat (UInt8.toNat_lt c)
  rwa [UInt8.ofNat_toNat] at h2
theorem idx_any (c : UInt8) (w : World) : Calls Try.prog 43 #[.string ⟨#[48, 49, 50, 51, 52, 53, 54, 55, 56, 57, 97, 98, 99, 100, 101, 102]⟩, .int .u8 (c.toNat : Int)] w fun e w' => e = .returned (.int .i64 (idxH c)) ∧ w = w' :=
  (Sh.strings_IndexByte _ _ w).mono fun _ _ ⟨h1, h2⟩ => ⟨by rw [h1, ← idxH_at]; simp, h2.symm⟩
theorem or_i64 (a b : Nat) (ha : a < 4611686018427387904) (hb : b < 4611686018427387904) : bits .or .i64 (a : Int) (b : Int) = ((a ||| b : Nat) : Int) := by
  have h : a ||| b < 4611686018427387904 := Nat.or_lt_two_pow (n := 62) ha hb
  have e : (2 : Nat) ^ IntKind.i64.bits = 18446744073709551616 := rfl
  exact bits_nat .or .i64 a b _ (by omega) (by omega) (· ||| ·) (fun x y => BitVec.toNat_or x y) rfl (IntWalk.i64_in _ (by omega))
/-- What Unhex hands out. -/
def unhexE (l : List UInt8) : ByteArray × Int := match SH.unhexB l with | some r => (strB r, 0) | none => (⟨#[]⟩, 4)
set_option maxRecDepth 100000 in
set_option maxHeartbeats 4000000 in
theorem unhex_any (s : ByteArray) (w : World) (hs : s.size ≤ 1000000) : Calls Try.prog 21 #[.string s] w fun e w' => e = .returned (.tuple #[.string (unhexE s.data.toList).1, .int .i64 (unhexE s.data.toList).2]) ∧ Keeps w w' := by
  by_cases hodd : s.size % 2 = 1
  · have g1 : ((s.size : Int) % 2 != 0) = true := by rw [bne_iff_ne]; omega
    have HE : Hid (unhexE s.data.toList = (⟨#[]⟩, 4)) := by
      show _ = _
      unfold unhexE SH.unhexB; rw [data_size, if_pos hodd]
    clear hodd
    go_enter Try.func21, Try.ntmps21
    go_wp2_with fail
    go_ret2
    rw [HE.out]
    exact ⟨rfl, keeps_refl w⟩
  · have g1 : ((s.size : Int) % 2 != 0) = false := by rw [bne_eq_false_iff_eq]; omega
    obtain ⟨m, hm⟩ : ∃ m, s.size = 2 * m := ⟨s.size / 2, by omega⟩
    have HM := Lib.hid hm
    have hmb : m ≤ 500000 := by omega
    have HU : Hid (SH.unhexB s.data.toList = SH.unh s.data.toList m) := by
      show _ = _
      unfold SH.unhexB; rw [data_size, if_neg hodd, hm, Nat.mul_div_cancel_left _ (by decide)]
    have HB0 := Lib.hid (Bld.new w)
    have HK0 : Hid (Keeps w (w.alloc (.cells #[.pointer none, .slice none 0 0] 76))) := kal _ _
    clear hodd hm
    go_enter Try.func21, Try.ntmps21
    go_wp2_with fail
    go_loopw [5] (fun i wx => ∃ (k : Nat) (r : List UInt8), k ≤ m ∧ i = .int .i64 (2 * (k : Int)) ∧ Hid (SH.unh s.data.toList k = some r) ∧ Hid (Bld w.heap.size w.heap.size r wx) ∧ Hid (Keeps w wx)) (fun i _ => 2 * m - (intOf i).toNat)
    case atStart => exact ⟨0, [], by omega, rfl, rfl, HB0, HK0⟩
    case round =>
      clear HB0 HK0
      obtain ⟨k, r, hk, rfl, hr, hB, hK⟩ := hrel
      by_cases hlt : k < m
      · have i1 : 2 * (k : Int) < (s.size : Int) := by have := HM.out; omega
        have i2 : 2 * k < s.size := by omega
        have i3 : 2 * k + 1 < s.size := by have := HM.out; omega
        have i4 : 2 * (k : Int) + 1 < (s.size : Int) := by omega
        have HC0 : Hid (SH.chr s.data.toList (2 * k) = s[2 * k]) := by
          show _ = _
          unfold SH.chr; rw [List.getD_eq_getElem?_getD, List.getElem?_eq_getElem (by rw [data_size]; exact i2)]; rfl
        have HC1 : Hid (SH.chr s.data.toList (2 * k + 1) = s[2 * k + 1]) := by
          show _ = _
          unfold SH.chr; rw [List.getD_eq_getElem?_getD, List.getElem?_eq_getElem (by rw [data_size]; exact i3)]; rfl
        have n1 : (2 * (k : Int)).toNat = 2 * k := by omega
        have n2 : (2 * (k : Int) + 1).toNat = 2 * k + 1 := by omega
        have v2 : IntKind.i64.wrap (2 * (k : Int) + 1) = 2 * (k : Int) + 1 := IntWalk.i64_in _ (by omega)
        have m2 : 0 ≤ 2 * (k : Int) + 1 := by omega
        have m1 : 0 ≤ 2 * (k : Int) := by omega
        have HRL := Lib.hid (SH.unh_length hr.out)
        have HE0 : Hid (∀ x y : UInt8, x = s[2 * k] → y = s[2 * k + 1] → SH.unh s.data.toList (k + 1) = if SH.numH x < 16 ∧ SH.numH y < 16 then some (r ++ [UInt8.ofNat (SH.numH x * 16 + SH.numH y)]) else none) := fun x y hx hy => by
          rw [SH.unh_succ hr.out, HC0.out, HC1.out, hx, hy]
        have HNO : Hid (SH.unh s.data.toList (k + 1) = none → unhexE s.data.toList = (⟨#[]⟩, 4)) := fun h => by
          unfold unhexE; rw [HU.out, SH.unh_more h (by omega)]
        by_cases ha : SH.numH s[2 * k] < 16
        · by_cases hb : SH.numH s[2 * k + 1] < 16
          · have HI0 : Hid (idxH s[2 * k] = (SH.numH s[2 * k] : Int)) := by show _ = _; unfold idxH; rw [if_pos ha]
            have HI1 : Hid (idxH s[2 * k + 1] = (SH.numH s[2 * k + 1] : Int)) := by show _ = _; unfold idxH; rw [if_pos hb]
            have HS : Hid (SH.unh s.data.toList (k + 1) = some (r ++ [UInt8.ofNat (SH.numH s[2 * k] * 16 + SH.numH s[2 * k + 1])])) := by
              show _ = _
              rw [HE0.out _ _ rfl rfl, if_pos ⟨ha, hb⟩]
            go_wp2_with fail
            go_quiet ((go_at_call 43; refine Calls.mono (idx_any _ _) ?_; rintro e w' ⟨rfl, rfl⟩; exact ⟨rfl, _, rfl⟩))
            rw [HI0.out, HI1.out]
            generalize SH.numH s[2 * k] = a at *
            generalize SH.numH s[2 * k + 1] = b at *
            have HO : Hid (bits .or .i64 ((a : Int) * 16) (b : Int) % 256 = ((UInt8.ofNat (a * 16 + b)).toNat : Int)) := by
              show _ = _
              have e1 : (a : Int) * 16 = ((a * 16 : Nat) : Int) := by omega
              rw [e1, or_i64 _ _ (by omega) (by omega)]
              have e2 : a * 16 ||| b = a * 16 + b := by
                have := Nat.two_pow_add_eq_or_of_lt (i := 4) (b := b) (by omega) a
                rw [Nat.mul_comm a 16]; exact this.symm
              rw [e2, UInt8.toNat_ofNat']
              omega
            have hln : r.length + 1 ≤ 500001 := by rw [HRL.out]; omega
            clear HI0 HI1 HE0 HNO HC0 HC1
            go_wp2_with fail
            rw [HO.out]
            refine Calls.mono (wbyte_any w.heap.size w.heap.size r (UInt8.ofNat (a * 16 + b)) _ hB.out (by omega) hK.out.size) ?_
            rintro e w1 ⟨rfl, hb1, k1⟩
            have HB1 := Lib.hid hb1
            have HK1 : Hid (Keeps w w1) := hK.out.then k1.1.kept (Nat.le_refl _)
            clear hb1 k1 hB hK HO
            go_wp2_with fail
            exact ⟨⟨k + 1, _, by omega, by go_num, HS.out, HB1, HK1⟩, by simp [intOf]; omega⟩
          · have HI0 : Hid (idxH s[2 * k] = (SH.numH s[2 * k] : Int)) := by show _ = _; unfold idxH; rw [if_pos ha]
            have HI1 : Hid (idxH s[2 * k + 1] = -1) := by show _ = _; unfold idxH; rw [if_neg hb]
            have HF := Lib.hid (HNO.out (by rw [HE0.out _ _ rfl rfl, if_neg (fun x => hb x.2)]))
            go_wp2_with fail
            go_quiet ((go_at_call 43; refine Calls.mono (idx_any _ _) ?_; rintro e w' ⟨rfl, rfl⟩; exact ⟨rfl, _, rfl⟩))
            rw [HI0.out, HI1.out]
            generalize SH.numH s[2 * k] = a at *
            clear HI0 HI1 HE0 HNO HC0 HC1
            go_wp2_with fail
            go_ret2
            rw [HF.out]
            exact ⟨rfl, hK.out⟩
        · have HI0 : Hid (idxH s[2 * k] = -1) := by show _ = _; unfold idxH; rw [if_neg ha]
          have HF := Lib.hid (HNO.out (by rw [HE0.out _ _ rfl rfl, if_neg (fun x => ha x.1)]))
          go_wp2_with fail
          go_quiet ((go_at_call 43; refine Calls.mono (idx_any _ _) ?_; rintro e w' ⟨rfl, rfl⟩; exact ⟨rfl, _, rfl⟩))
          rw [HI0.out]
          generalize idxH s[2 * k + 1] = b at *
          clear HI0 HE0 HNO HC0 HC1
          go_wp2_with fail
          go_ret2
          rw [HF.out]
          exact ⟨rfl, hK.out⟩
      · obtain rfl : k = m := by omega
        have i1 : ¬ (2 * (k : Int) < (s.size : Int)) := by have := HM.out; omega
        have HF : Hid (unhexE s.data.toList = (strB r, 0)) := by
          show _ = _
          unfold unhexE; rw [HU.out, hr.out]
        go_wp2_with fail
        refine Calls.mono (btext_any w.heap.size w.heap.size _ _ hB.out hK.out.size) ?_
        rintro e w8 ⟨rfl, _, k8⟩
        have HK8 : Hid (Keeps w w8) := hK.out.then k8.1.kept (Nat.le_refl _)
        clear k8
        go_wp2
        go_ret2
        rw [HF.out]
        exact ⟨rfl, HK8.out⟩
end Go.Proofs.Ytcapalofocmmoaa
