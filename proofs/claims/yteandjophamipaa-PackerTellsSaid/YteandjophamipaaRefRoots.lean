/- The walks of the reference's bitsOf and Roots. -/
import Derived.Test.YteandjophamipaaRefDig
import Derived.Test.YteandjophamipaaShaB
import Derived.Test.YteandjophamipaaAppLoc
namespace Go.Proofs.Yteandjophamipaa
open Go.RowKit
def addN : Nat → Nat
  | 0 => 0
  | j + 1 => 2 ^ j
theorem addN_half (j : Nat) : 2 ^ j / 2 = addN j := by
  cases j with
  | zero => rfl
  | succ j => show 2 ^ (j + 1) / 2 = 2 ^ j; rw [Nat.pow_succ]; omega
theorem addN_lt (j : Nat) : addN j < 2 ^ j := by
  rw [← addN_half]; have := Nat.two_pow_pos j; omega
theorem grd_one (P : Nat → Bool) (b x : Nat) : SH.grd P (b + 1) x = SH.grd P b (if P (x + 2 ^ b) then x else x + 2 ^ b) := rfl
theorem grd_stay {P : Nat → Bool} {b : Nat} (h : P (2 ^ b) = true) : SH.grd P (b + 1) 0 = SH.grd P b 0 := by
  rw [grd_one, Nat.zero_add, if_pos h]
theorem grd_37 {P : Nat → Bool} (h : P (2 ^ 36) = true) : SH.grd P 37 0 = SH.grd P 36 0 := grd_stay (b := 36) h
theorem ovr_two (n y : Nat) : decide (n * 65536 ^ 4 < SH.val (SH.digits y) * SH.val (SH.digits y)) = SH.ovr n 2 y := by
  rw [SH.digits_val]; unfold SH.ovr; rw [Nat.pow_two]
theorem ovr_three (n y : Nat) : decide (n * 65536 ^ 6 < SH.val (SH.digits y) * SH.val (SH.digits y) * SH.val (SH.digits y)) = SH.ovr n 3 y := by
  rw [SH.digits_val]; unfold SH.ovr
  have e : y ^ 3 = y * y * y := by rw [Nat.pow_succ, Nat.pow_two]
  rw [e]
set_option maxRecDepth 100000 in
set_option maxHeartbeats 4000000 in
theorem bits2_any (n : Nat) (w : World) (hn : n < 1000) (h36 : SH.ovr n 2 (2 ^ 36) = true) :
    Calls Try.prog 77 #[.int .u64 (n : Int), .int .i64 2] w fun e w' => e = .returned (.int .u32 (SH.rootL n 2 : Int)) ∧ Keeps w w' := by
  have HG : Hid (SH.grd (SH.ovr n 2) 37 0 = SH.grd (SH.ovr n 2) 36 0) := grd_37 h36
  have H36 := Lib.hid h36
  clear h36
  go_enter Try.func77, Try.ntmps77
  go_wp2_with fail
  go_loopw [5, 6] (fun x b wr => ∃ (j m : Nat), j ≤ 37 ∧ b = .int .u64 (addN j : Int) ∧ x = .int .u64 (m : Int) ∧ Hid (m % 2 ^ j = 0) ∧ m < 68719476736 ∧ Hid (SH.grd (SH.ovr n 2) j m = SH.grd (SH.ovr n 2) 37 0) ∧ Hid (Keeps w wr)) (fun _ b _ => (intOf b).toNat)
  case atStart => exact ⟨37, 0, by omega, rfl, rfl, rfl, by omega, rfl, keeps_refl w⟩
  case round =>
    obtain ⟨j, m, hj, rfl, rfl, h1, h2, h3, hK⟩ := hrel
    cases j with
    | zero =>
      have HE : Hid ((m : Int) % 4294967296 = (SH.rootL n 2 : Int)) := by
        have e : m = SH.grd (SH.ovr n 2) 36 0 := h3.out.trans HG.out
        show _ = _
        unfold SH.rootL; rw [← e]; omega
      have a0 : addN 0 = 0 := rfl
      rw [a0]
      go_wp2
      go_ret
      exact ⟨ret_int HE.out, hK.out⟩
    | succ j =>
      have a1 : addN (j + 1) = 2 ^ j := rfl
      rw [a1]
      clear a1
      have hm36 : m + 2 ^ j ≤ 68719476736 := by
        rcases Nat.lt_or_ge j 36 with h | h
        · exact Nat.le_of_lt (bit_top h h1.out h2)
        · obtain rfl : j = 36 := by omega
          have h0 := h1.out
          have : m = 0 := by omega
          rw [this]; decide
      have HYES : Hid (SH.ovr n 2 (m + 2 ^ j) = true → m % 2 ^ j = 0 ∧ SH.grd (SH.ovr n 2) j m = SH.grd (SH.ovr n 2) 37 0) := fun h => by
        have e1 := grd_mod (P := SH.ovr n 2) h1.out
        have e2 := (grd_one (SH.ovr n 2) j m).symm.trans h3.out
        rw [if_pos h] at e1 e2
        exact ⟨e1, e2⟩
      have HNO : Hid (SH.ovr n 2 (m + 2 ^ j) = false → (m + 2 ^ j) % 2 ^ j = 0 ∧ SH.grd (SH.ovr n 2) j (m + 2 ^ j) = SH.grd (SH.ovr n 2) 37 0) := fun h => by
        have e1 := grd_mod (P := SH.ovr n 2) h1.out
        have e2 := (grd_one (SH.ovr n 2) j m).symm.trans h3.out
        have h' : ¬ SH.ovr n 2 (m + 2 ^ j) = true := by rw [h]; simp
        rw [if_neg h'] at e1 e2
        exact ⟨e1, e2⟩
      have HTOP : Hid (SH.ovr n 2 (m + 2 ^ j) = false → m + 2 ^ j < 68719476736) := fun h => by
        rcases Nat.lt_or_ge j 36 with h' | h'
        · exact bit_top h' h1.out h2
        · obtain rfl : j = 36 := by omega
          have h0 := h1.out
          have hm0 : m = 0 := by omega
          rw [hm0, Nat.zero_add, H36.out] at h; cases h
      have hp := Nat.two_pow_pos j
      have HHALF := Lib.hid (addN_half j)
      have hlt := addN_lt j
      clear h1 h3
      generalize hT : 2 ^ j = t at *
      have HT := Lib.hid hT
      clear hT
      have HE : Hid ((m : Int) + (t : Int) = ((m + t : Nat) : Int)) := by show _ = _; omega
      have HH2 : Hid ((t : Int) / 2 = (addN j : Int)) := by show _ = _; rw [← HHALF.out]; omega
      generalize hA : addN j = aj at *
      have HA := Lib.hid hA
      clear hA
      have g0 : (0 : Int) < (t : Int) := by omega
      have HDD : Hid (SH.Digs (SH.digits (m + t))) := SH.digits_ok (by omega)
      have HP := Lib.hid (SH.times_ok HDD.out HDD.out)
      go_wp2_with fail
      rw [HE.out]
      refine Calls.mono (digits_any (m + t) _ (by omega)) ?_
      rintro e w1 ⟨v1, rfl, hv1, k1⟩
      have V1 := Lib.hid (SeqIn.at_ hv1)
      have K1 := Lib.hid (hK.out.trans k1)
      clear hv1 k1
      go_wp2_with fail
      refine Calls.mono (times_any v1 v1 _ _ _ V1.out V1.out HDD.out HDD.out (by show 4 ≤ 100; decide) (by show 4 ≤ 100; decide)) ?_
      rintro e w2 ⟨v2, rfl, hv2, k2⟩
      have V2 := Lib.hid (SeqIn.at_ hv2)
      have K2 := Lib.hid (K1.out.trans k2)
      clear hv2 k2
      go_wp2_with fail
      refine Calls.mono (above_any v2 _ n 4 _ V2.out HP.out.1 (by rw [HP.out.2]; show 8 ≤ 100; decide) hn (by rw [HP.out.2]; show 8 ≤ 8; decide)) ?_
      rintro e w3 ⟨rfl, k3⟩
      have K3 := Lib.hid (K2.out.trans k3)
      rw [SH.times_val HDD.out HDD.out, ovr_two]
      clear k3 HDD HP V1 V2
      cases hp2 : SH.ovr n 2 (m + t) with
      | true =>
        obtain ⟨q1, q2⟩ := HYES.out hp2
        have Q1 : Hid (m % 2 ^ j = 0) := by show _ = _; rw [HT.out]; exact q1
        have Q2 := Lib.hid q2
        clear hp2 q1 q2 HYES HNO HTOP
        go_wp2_with fail
        rw [HH2.out]
        exact ⟨⟨j, m, by omega, by rw [HA.out], rfl, Q1, h2, Q2, K3⟩, by simp [intOf]; omega⟩
      | false =>
        obtain ⟨q1, q2⟩ := HNO.out hp2
        have Q1 : Hid ((m + t) % 2 ^ j = 0) := by show _ = _; rw [HT.out]; exact q1
        have Q2 := Lib.hid q2
        have h9 := HTOP.out hp2
        clear hp2 q1 q2 HYES HNO HTOP
        go_wp2_with fail
        rw [HH2.out, HE.out]
        exact ⟨⟨j, m + t, by omega, by rw [HA.out], rfl, Q1, h9, Q2, K3⟩, by simp [intOf]; omega⟩
set_option maxRecDepth 100000 in
set_option maxHeartbeats 4000000 in
theorem bits3_any (n : Nat) (w : World) (hn : n < 1000) (h36 : SH.ovr n 3 (2 ^ 36) = true) :
    Calls Try.prog 77 #[.int .u64 (n : Int), .int .i64 3] w fun e w' => e = .returned (.int .u32 (SH.rootL n 3 : Int)) ∧ Keeps w w' := by
  have HG : Hid (SH.grd (SH.ovr n 3) 37 0 = SH.grd (SH.ovr n 3) 36 0) := grd_37 h36
  have H36 := Lib.hid h36
  clear h36
  go_enter Try.func77, Try.ntmps77
  go_wp2_with fail
  go_loopw [5, 6] (fun x b wr => ∃ (j m : Nat), j ≤ 37 ∧ b = .int .u64 (addN j : Int) ∧ x = .int .u64 (m : Int) ∧ Hid (m % 2 ^ j = 0) ∧ m < 68719476736 ∧ Hid (SH.grd (SH.ovr n 3) j m = SH.grd (SH.ovr n 3) 37 0) ∧ Hid (Keeps w wr)) (fun _ b _ => (intOf b).toNat)
  case atStart => exact ⟨37, 0, by omega, rfl, rfl, rfl, by omega, rfl, keeps_refl w⟩
  case round =>
    obtain ⟨j, m, hj, rfl, rfl, h1, h2, h3, hK⟩ := hrel
    cases j with
    | zero =>
      have HE : Hid ((m : Int) % 4294967296 = (SH.rootL n 3 : Int)) := by
        have e : m = SH.grd (SH.ovr n 3) 36 0 := h3.out.trans HG.out
        show _ = _
        unfold SH.rootL; rw [← e]; omega
      have a0 : addN 0 = 0 := rfl
      rw [a0]
      go_wp2
      go_ret
      exact ⟨ret_int HE.out, hK.out⟩
    | succ j =>
      have a1 : addN (j + 1) = 2 ^ j := rfl
      rw [a1]
      clear a1
      have hm36 : m + 2 ^ j ≤ 68719476736 := by
        rcases Nat.lt_or_ge j 36 with h | h
        · exact Nat.le_of_lt (bit_top h h1.out h2)
        · obtain rfl : j = 36 := by omega
          have h0 := h1.out
          have : m = 0 := by omega
          rw [this]; decide
      have HYES : Hid (SH.ovr n 3 (m + 2 ^ j) = true → m % 2 ^ j = 0 ∧ SH.grd (SH.ovr n 3) j m = SH.grd (SH.ovr n 3) 37 0) := fun h => by
        have e1 := grd_mod (P := SH.ovr n 3) h1.out
        have e2 := (grd_one (SH.ovr n 3) j m).symm.trans h3.out
        rw [if_pos h] at e1 e2
        exact ⟨e1, e2⟩
      have HNO : Hid (SH.ovr n 3 (m + 2 ^ j) = false → (m + 2 ^ j) % 2 ^ j = 0 ∧ SH.grd (SH.ovr n 3) j (m + 2 ^ j) = SH.grd (SH.ovr n 3) 37 0) := fun h => by
        have e1 := grd_mod (P := SH.ovr n 3) h1.out
        have e2 := (grd_one (SH.ovr n 3) j m).symm.trans h3.out
        have h' : ¬ SH.ovr n 3 (m + 2 ^ j) = true := by rw [h]; simp
        rw [if_neg h'] at e1 e2
        exact ⟨e1, e2⟩
      have HTOP : Hid (SH.ovr n 3 (m + 2 ^ j) = false → m + 2 ^ j < 68719476736) := fun h => by
        rcases Nat.lt_or_ge j 36 with h' | h'
        · exact bit_top h' h1.out h2
        · obtain rfl : j = 36 := by omega
          have h0 := h1.out
          have hm0 : m = 0 := by omega
          rw [hm0, Nat.zero_add, H36.out] at h; cases h
      have hp := Nat.two_pow_pos j
      have HHALF := Lib.hid (addN_half j)
      have hlt := addN_lt j
      clear h1 h3
      generalize hT : 2 ^ j = t at *
      have HT := Lib.hid hT
      clear hT
      have HE : Hid ((m : Int) + (t : Int) = ((m + t : Nat) : Int)) := by show _ = _; omega
      have HH2 : Hid ((t : Int) / 2 = (addN j : Int)) := by show _ = _; rw [← HHALF.out]; omega
      generalize hA : addN j = aj at *
      have HA := Lib.hid hA
      clear hA
      have g0 : (0 : Int) < (t : Int) := by omega
      have HDD : Hid (SH.Digs (SH.digits (m + t))) := SH.digits_ok (by omega)
      have HP := Lib.hid (SH.times_ok HDD.out HDD.out)
      go_wp2_with fail
      rw [HE.out]
      refine Calls.mono (digits_any (m + t) _ (by omega)) ?_
      rintro e w1 ⟨v1, rfl, hv1, k1⟩
      have V1 := Lib.hid (SeqIn.at_ hv1)
      have K1 := Lib.hid (hK.out.trans k1)
      clear hv1 k1
      go_wp2_with fail
      refine Calls.mono (times_any v1 v1 _ _ _ V1.out V1.out HDD.out HDD.out (by show 4 ≤ 100; decide) (by show 4 ≤ 100; decide)) ?_
      rintro e w2 ⟨v2, rfl, hv2, k2⟩
      have V2 := Lib.hid (SeqIn.at_ hv2)
      have V12 := Lib.hid (SeqAt.keeps V1.out k2)
      have K2 := Lib.hid (K1.out.trans k2)
      clear hv2 k2
      go_wp2_with fail
      refine Calls.mono (times_any v2 v1 _ _ _ V2.out V12.out HP.out.1 HDD.out (by rw [HP.out.2]; show 8 ≤ 100; decide) (by show 4 ≤ 100; decide)) ?_
      rintro e w2b ⟨v3, rfl, hv3, k3⟩
      have V3 := Lib.hid (SeqIn.at_ hv3)
      have K2 := Lib.hid (K2.out.trans k3)
      have HP3 := Lib.hid (SH.times_ok HP.out.1 HDD.out)
      clear hv3 k3
      go_wp2_with fail
      refine Calls.mono (above_any v3 _ n 6 _ V3.out HP3.out.1 (by rw [HP3.out.2, HP.out.2]; show 12 ≤ 100; decide) hn (by rw [HP3.out.2, HP.out.2]; show 10 ≤ 12; decide)) ?_
      rintro e w3 ⟨rfl, k3⟩
      have K3 := Lib.hid (K2.out.trans k3)
      rw [SH.times_val HP.out.1 HDD.out, SH.times_val HDD.out HDD.out, ovr_three]
      clear k3 HDD HP V1 V2 V12 V3 HP3
      cases hp2 : SH.ovr n 3 (m + t) with
      | true =>
        obtain ⟨q1, q2⟩ := HYES.out hp2
        have Q1 : Hid (m % 2 ^ j = 0) := by show _ = _; rw [HT.out]; exact q1
        have Q2 := Lib.hid q2
        clear hp2 q1 q2 HYES HNO HTOP
        go_wp2_with fail
        rw [HH2.out]
        exact ⟨⟨j, m, by omega, by rw [HA.out], rfl, Q1, h2, Q2, K3⟩, by simp [intOf]; omega⟩
      | false =>
        obtain ⟨q1, q2⟩ := HNO.out hp2
        have Q1 : Hid ((m + t) % 2 ^ j = 0) := by show _ = _; rw [HT.out]; exact q1
        have Q2 := Lib.hid q2
        have h9 := HTOP.out hp2
        clear hp2 q1 q2 HYES HNO HTOP
        go_wp2_with fail
        rw [HH2.out, HE.out]
        exact ⟨⟨j, m + t, by omega, by rw [HA.out], rfl, Q1, h9, Q2, K3⟩, by simp [intOf]; omega⟩
theorem ovr36_3 {n : Nat} (h : n < 1000) : SH.ovr n 3 (2 ^ 36) = true := by
  unfold SH.ovr
  refine decide_eq_true ?_
  have : n * 2 ^ (32 * 3) < 1000 * 2 ^ (32 * 3) := Nat.mul_lt_mul_of_pos_right h (by decide)
  exact Nat.lt_trans this (by decide)
theorem ovr36_2 {n : Nat} (h : n < 200) : SH.ovr n 2 (2 ^ 36) = true := by
  unfold SH.ovr
  refine decide_eq_true ?_
  have : n * 2 ^ (32 * 2) < 200 * 2 ^ (32 * 2) := Nat.mul_lt_mul_of_pos_right h (by decide)
  exact Nat.lt_trans this (by decide)
theorem HL_snoc {k : Nat} (h : k < 8) : SH.HL.take (k + 1) = SH.HL.take k ++ [SH.HL.getD k 0] := by
  rw [List.getD_eq_getElem?_getD, List.getElem?_eq_getElem (show k < SH.HL.length from h)]
  exact (List.take_append_getElem (show k < SH.HL.length from h)).symm
theorem HL_full {k : Nat} (h : 8 ≤ k) : SH.HL.take (k + 1) = SH.HL.take k := by
  rw [List.take_of_length_le (show SH.HL.length ≤ k + 1 from by show 8 ≤ _; omega), List.take_of_length_le (show SH.HL.length ≤ k from h)]
theorem prime_lt8 {k : Nat} (h : k < 8) : SH.primesL.getD k 0 < 200 := by
  have : ∀ j < 8, SH.primesL.getD j 0 < 200 := by decide
  exact this k h
/-- No j below d, from 2 on, parts n. -/
def noDiv (n d : Nat) : Bool := decide (∀ j, j < d → 2 ≤ j → n % j ≠ 0)
theorem noDiv_two (n : Nat) : noDiv n 2 = true := decide_eq_true fun j h1 h2 => by omega
theorem noDiv_succ {n d : Nat} (h2 : 2 ≤ d) (h : noDiv n d = true) : noDiv n (d + 1) = (n % d != 0) := by
  have h0 : ∀ j, j < d → 2 ≤ j → n % j ≠ 0 := of_decide_eq_true h
  by_cases e : n % d = 0
  · rw [show (n % d != 0) = false from by rw [bne_eq_false_iff_eq]; exact e]
    exact decide_eq_false fun x => x d (by omega) h2 e
  · rw [show (n % d != 0) = true from by rw [bne_iff_ne]; exact e]
    exact decide_eq_true fun j h1 h2 => by
      by_cases ej : j = d
      · subst ej; exact e
      · exact h0 j (by omega) h2
theorem noDiv_prime {n d : Nat} (h : noDiv n d = true) (hd : n < d * d) : SH.primeB n = true := SH.primeB_yes hd fun j h2 hj => (of_decide_eq_true h : ∀ j, j < d → 2 ≤ j → n % j ≠ 0) j hj h2
def Apart2 (v u : Value) : Prop := ∀ k, v.ownBlock = some k → u.ownBlock = some k → False
set_option maxRecDepth 100000 in
set_option maxHeartbeats 4000000 in
theorem roots_any (w : World) : Calls Try.prog 72 #[] w fun e w' => ∃ v1 v2, e = .returned (.tuple #[v1, v2]) ∧ SeqIn (w.heap.size ≤ ·) 81 IsU32 w'.heap v1 SH.HL ∧ SeqIn (w.heap.size ≤ ·) 81 IsU32 w'.heap v2 SH.KL ∧ Keeps w w' := by
  go_enter Try.func72, Try.ntmps72
  go_wp2_with fail
  go_loopw [2, 3, 4] (fun v1 v2 i wr => ∃ m : Nat, 2 ≤ m ∧ m ≤ 312 ∧ i = .int .u64 (m : Int) ∧ Hid (OwnSeq w.heap.size 81 IsU32 wr v1 (SH.HL.take (SH.primesB m).length)) ∧ Hid (OwnSeq w.heap.size 81 IsU32 wr v2 (SH.KL.take (SH.primesB m).length)) ∧ Hid (Apart2 v1 v2) ∧ Hid ((SH.primesB m).length ≤ 64) ∧ Hid (Keeps w wr)) (fun _ _ i _ => 313 - (intOf i).toNat)
  case atStart => exact ⟨2, by omega, by omega, rfl, by show OwnSeq _ _ _ _ _ _; rw [SH.primesB_two]; exact OwnSeq.nil _ _ _ _, by show OwnSeq _ _ _ _ _ _; rw [SH.primesB_two]; exact OwnSeq.nil _ _ _ _, (fun k hk => by cases hk), by show _ ≤ _; rw [SH.primesB_two]; decide, keeps_refl w⟩
  case round =>
    obtain ⟨m, hm, hm3, rfl, hO1, hO2, hAp, hL, hK⟩ := hrel
    obtain ⟨us2, hu1, hu2, hu3⟩ := hO2.out
    have HU2 := Lib.hid hu1
    have HL2 := Lib.hid hu2
    have H32 := Lib.hid hu3
    have hkl : us2.length = (SH.primesB m).length := by
      rw [hu2, List.length_take]
      have : SH.KL.length = 64 := rfl
      have := hL.out; omega
    have HKL := Lib.hid hkl
    have hle2 : us2.length ≤ 64 := by have := hL.out; omega
    obtain ⟨p2, q2, rfl⟩ := own_slice hu1
    clear hu1 hu2 hu3 hkl
    by_cases hlt : us2.length < 64
    · have g1 : (us2.length : Int) < 64 := by omega
      have hm4 : m < 312 := SH.primesB_few (by have := HKL.out; omega)
      go_wp2_with fail
      obtain ⟨wo, rfl⟩ : ∃ wo : World, wo = wr := ⟨_, rfl⟩
      go_loop [5, 6] (fun b i => ∃ d : Nat, 2 ≤ d ∧ d ≤ m + 1 ∧ i = .int .u64 (d : Int) ∧ b = .bool (noDiv m d) ∧ Hid (d = 2 ∨ (d - 1) * (d - 1) ≤ m)) (fun _ i => m + 2 - (intOf i).toNat)
      case atStart => exact ⟨2, by omega, by omega, rfl, by rw [noDiv_two], .inl rfl⟩
      case round =>
        obtain ⟨d, hd2, hdm, rfl, rfl, hdd⟩ := hrel
        have q0 : 0 ≤ (d : Int) * (d : Int) := by rw [← Int.natCast_mul]; omega
        have q1 : (d : Int) * (d : Int) ≤ 100000 := by
          have : d * d ≤ 313 * 313 := Nat.mul_le_mul (by omega) (by omega)
          rw [← Int.natCast_mul]; omega
        cases hnd : noDiv m d with
        | false =>
          have HPN : Hid (SH.primeB m = false) := by
            have h0 := of_decide_eq_false hnd
            show _ = _
            cases hpp : SH.primeB m with
            | false => rfl
            | true =>
              exfalso
              refine h0 fun j h1 h2 h3 => ?_
              have hjj : j * j ≤ m := by
                rcases hdd.out with e | e
                · omega
                · exact Nat.le_trans (Nat.mul_le_mul (by omega) (by omega)) e
              have := SH.primeB_no h2 hjj h3
              rw [hpp] at this; cases this
          have HPS := Lib.hid (SH.primesB_same hm HPN.out)
          clear hnd hdd
          by_cases hq : d * d ≤ m
          · have g2 : (d : Int) * (d : Int) ≤ (m : Int) := by rw [← Int.natCast_mul]; omega
            clear hq
            go_wp2_with fail
            exact ⟨⟨m + 1, by omega, by omega, by go_num, by rw [HPS.out]; exact hO1, by rw [HPS.out]; exact hO2, hAp, by rw [HPS.out]; exact hL, hK⟩, by simp [intOf]; omega⟩
          · have g2 : ¬ ((d : Int) * (d : Int) ≤ (m : Int)) := by rw [← Int.natCast_mul]; omega
            clear hq
            go_wp2_with fail
            exact ⟨⟨m + 1, by omega, by omega, by go_num, by rw [HPS.out]; exact hO1, by rw [HPS.out]; exact hO2, hAp, by rw [HPS.out]; exact hL, hK⟩, by simp [intOf]; omega⟩
        | true =>
          by_cases hq : d * d ≤ m
          · have g2 : (d : Int) * (d : Int) ≤ (m : Int) := by rw [← Int.natCast_mul]; omega
            have hdm2 : d + 1 ≤ m := by
              have : d * 2 ≤ d * d := Nat.mul_le_mul_left d hd2
              omega
            have HB : Hid (((m : Int) % (d : Int) != 0) = noDiv m (d + 1)) := by
              show _ = _
              rw [noDiv_succ hd2 hnd, ← Int.natCast_emod]
              by_cases e : m % d = 0
              · rw [e]; rfl
              · rw [show (m % d != 0) = true from by rw [bne_iff_ne]; exact e, bne_iff_ne]; omega
            have HDD : Hid (d + 1 = 2 ∨ (d + 1 - 1) * (d + 1 - 1) ≤ m) := .inr hq
            clear hq hnd hdd
            go_wp2_with fail
            rw [HB.out]
            exact ⟨⟨d + 1, by omega, by omega, by go_num, rfl, HDD⟩, by simp [intOf]; omega⟩
          · have g2 : ¬ ((d : Int) * (d : Int) ≤ (m : Int)) := by rw [← Int.natCast_mul]; omega
            have HPR := Lib.hid (noDiv_prime hnd (by omega))
            have HNX := Lib.hid (SH.primesB_next hm hm4 HPR.out)
            clear hq hnd hdd
            obtain ⟨us1, hu1, hu2, hu3⟩ := hO1.out
            have HU1 := Lib.hid hu1
            have HL1 := Lib.hid hu2
            have H31 := Lib.hid hu3
            have hle1 : us1.length ≤ 8 := by
              rw [hu2, List.length_take]
              have : SH.HL.length = 8 := rfl
              omega
            have HL1E : Hid (us1.length = min (SH.primesB m).length 8) := by show _ = _; rw [hu2, List.length_take]; rfl
            obtain ⟨p1, q1', rfl⟩ := own_slice hu1
            clear hu1 hu2 hu3
            by_cases h8 : us1.length < 8
            · have g8 : (us1.length : Int) < 8 := by omega
              have HC8 : Hid ((SH.primesB m).length = us1.length) := by show _ = _; have := HL1E.out; omega
              have HR3 : Hid (SH.rootL m 3 = SH.KL.getD (SH.primesB m).length 0) := by show _ = _; rw [← root3_at HNX.out.1, HNX.out.2.1]
              have HR2 : Hid (SH.rootL m 2 = SH.HL.getD (SH.primesB m).length 0) := by show _ = _; rw [← root2_at (by rw [HC8.out]; exact h8), HNX.out.2.1]
              have hm200 : m < 200 := by have := prime_lt8 (k := (SH.primesB m).length) (by rw [HC8.out]; exact h8); rw [HNX.out.2.1] at this; exact this
              go_wp2_with fail
              refine Calls.mono (bits2_any m _ (by omega) (ovr36_2 hm200)) ?_
              rintro e w3 ⟨rfl, k3⟩
              have HU13 : Hid (w3.ownsRow w.heap.size 81 1 (.slice p1 us1.length q1') us1.length us1) := owns_chg (T := fun _ => False) HU1.out (Kept.any k3) fun _ _ x => x
              have HU23 : Hid (w3.ownsRow w.heap.size 81 1 (.slice p2 us2.length q2) us2.length us2) := owns_chg (T := fun _ => False) HU2.out (Kept.any k3) fun _ _ x => x
              have HK3 := Lib.hid (Keeps.trans hK.out k3)
              have hz3 := HK3.out.size
              clear k3
              go_wp2_with (at_builtin; refine wp_app1_loc elU32 rfl _ _ rfl w.heap.size _ us1 rfl (HU13.out.alloc _) _ (.int .u32 (SH.rootL m 2 : Int)) rfl ?d1 rfl ?d2 ?d3 ?_)
              case d1 => exact World.cell?_alloc_new _ _ _ _
              case d2 => omega
              case d3 => simp; omega
              intro v1' w4 hown hchg hloc
              have HO14 : Hid (OwnSeq w.heap.size 81 IsU32 w4 v1' (SH.HL.take ((SH.primesB m).length + 1))) := by
                show OwnSeq _ _ _ _ _ _
                rw [HL_snoc (by rw [HC8.out]; exact h8), ← HR2.out]
                exact OwnSeq.push (R := IsU32) HL1.out H31.out hown (fun _ _ _ x => x) rfl
              have HU24 : Hid (w4.ownsRow w.heap.size 81 1 (.slice p2 us2.length q2) us2.length us2) := owns_chg (HU23.out.alloc _) hchg fun k h1 h2 => hAp.out k h2 h1
              have HA4 : Hid (Apart2 v1' (.slice p2 us2.length q2)) := fun k h1 h2 => by
                rcases hloc k h1 with h3 | h3
                · exact hAp.out k h3 h2
                · have h5 := (own_block HU23.out k h2).2.1
                  omega
              have HK4 : Hid (Keeps w w4) := HK3.out.then (Chg.kept ((((Chg.refl _ w3).alloc _).trans hchg).mono (T' := fun b => w.heap.size ≤ b) fun b _ hb => (own_block HU13.out b hb).1) hz3) (Nat.le_refl _)
              clear hown hchg hloc HU13 HU23 HK3
              go_wp2_with fail
              refine Calls.mono (bits3_any m _ (by omega) (ovr36_3 (by omega))) ?_
              rintro e w5 ⟨rfl, k5⟩
              have HU25 : Hid (w5.ownsRow w.heap.size 81 1 (.slice p2 us2.length q2) us2.length us2) := owns_chg (T := fun _ => False) HU24.out (Kept.any k5) fun _ _ x => x
              have HO15 := Lib.hid (OwnSeq.chg (R' := IsU32) HO14.out (T := fun _ => False) (Kept.any k5) (fun _ _ x => x) fun _ _ _ x => x)
              have HK5 := Lib.hid (Keeps.trans HK4.out k5)
              have hz5 := HK5.out.size
              clear k5
              go_wp2_with (at_builtin; refine wp_app1_loc elU32 rfl _ _ rfl w.heap.size _ us2 rfl (HU25.out.alloc _) _ (.int .u32 (SH.rootL m 3 : Int)) rfl ?e1 rfl ?e2 ?e3 ?_)
              case e1 => exact World.cell?_alloc_new _ _ _ _
              case e2 => omega
              case e3 => simp; omega
              intro v2' wf hown hchg hloc
              have HP2 : Hid (OwnSeq w.heap.size 81 IsU32 wf v2' (SH.KL.take (SH.primesB (m + 1)).length)) := by
                show OwnSeq _ _ _ _ _ _
                rw [HNX.out.2.2, KL_snoc HNX.out.1, ← HR3.out]
                exact OwnSeq.push (R := IsU32) HL2.out H32.out hown (fun _ _ _ x => x) rfl
              have HP1 : Hid (OwnSeq w.heap.size 81 IsU32 wf v1' (SH.HL.take (SH.primesB (m + 1)).length)) := by
                show OwnSeq _ _ _ _ _ _
                rw [HNX.out.2.2]
                exact HO15.out.chg ((((Chg.refl (fun k => (Value.slice p2 us2.length q2).ownBlock = some k) w5).alloc _).trans hchg)) (fun k h1 h2 => HA4.out k h1 h2) fun _ _ _ x => x
              have HPA : Hid (Apart2 v1' v2') := fun k h1 h2 => by
                rcases hloc k h2 with h3 | h3
                · exact HA4.out k h1 h3
                · obtain ⟨us, h4, _⟩ := HO15.out
                  have h5 := (own_block h4 k h1).2.1
                  omega
              have HPL : Hid ((SH.primesB (m + 1)).length ≤ 64) := by show _ ≤ _; rw [HNX.out.2.2]; exact HNX.out.1
              have HPK : Hid (Keeps w wf) := HK5.out.then (Chg.kept ((((Chg.refl _ w5).alloc _).trans hchg).mono (T' := fun b => w.heap.size ≤ b) fun b _ hb => (own_block HU25.out b hb).1) hz5) (Nat.le_refl _)
              clear hown hchg hloc
              go_wp2_with fail
              exact ⟨⟨m + 1, by omega, by omega, by go_num, HP1, HP2, HPA, HPL, HPK⟩, by simp [intOf]; omega⟩
            · have g8 : ¬ ((us1.length : Int) < 8) := by omega
              have HC8 : Hid (8 ≤ (SH.primesB m).length) := by show _ ≤ _; have := HL1E.out; omega
              have HR3 : Hid (SH.rootL m 3 = SH.KL.getD (SH.primesB m).length 0) := by show _ = _; rw [← root3_at HNX.out.1, HNX.out.2.1]
              go_wp2_with fail
              refine Calls.mono (bits3_any m _ (by omega) (ovr36_3 (by omega))) ?_
              rintro e w5 ⟨rfl, k5⟩
              have HU25 : Hid (w5.ownsRow w.heap.size 81 1 (.slice p2 us2.length q2) us2.length us2) := owns_chg (T := fun _ => False) HU2.out (Kept.any k5) fun _ _ x => x
              have HO15 := Lib.hid (OwnSeq.chg (R' := IsU32) hO1.out (T := fun _ => False) (Kept.any k5) (fun _ _ x => x) fun _ _ _ x => x)
              have HK5 := Lib.hid (Keeps.trans hK.out k5)
              have hz5 := HK5.out.size
              clear k5
              go_wp2_with (at_builtin; refine wp_app1_loc elU32 rfl _ _ rfl w.heap.size _ us2 rfl (HU25.out.alloc _) _ (.int .u32 (SH.rootL m 3 : Int)) rfl ?e1 rfl ?e2 ?e3 ?_)
              case e1 => exact World.cell?_alloc_new _ _ _ _
              case e2 => omega
              case e3 => simp; omega
              intro v2' wf hown hchg hloc
              have HP2 : Hid (OwnSeq w.heap.size 81 IsU32 wf v2' (SH.KL.take (SH.primesB (m + 1)).length)) := by
                show OwnSeq _ _ _ _ _ _
                rw [HNX.out.2.2, KL_snoc HNX.out.1, ← HR3.out]
                exact OwnSeq.push (R := IsU32) HL2.out H32.out hown (fun _ _ _ x => x) rfl
              have HP1 : Hid (OwnSeq w.heap.size 81 IsU32 wf (.slice p1 us1.length q1') (SH.HL.take (SH.primesB (m + 1)).length)) := by
                show OwnSeq _ _ _ _ _ _
                rw [HNX.out.2.2, HL_full HC8.out]
                exact HO15.out.chg ((((Chg.refl (fun k => (Value.slice p2 us2.length q2).ownBlock = some k) w5).alloc _).trans hchg)) (fun k h1 h2 => hAp.out k h1 h2) fun _ _ _ x => x
              have HPA : Hid (Apart2 (.slice p1 us1.length q1') v2') := fun k h1 h2 => by
                rcases hloc k h2 with h3 | h3
                · exact hAp.out k h1 h3
                · obtain ⟨us, h4, _⟩ := HO15.out
                  have h5 := (own_block h4 k h1).2.1
                  omega
              have HPL : Hid ((SH.primesB (m + 1)).length ≤ 64) := by show _ ≤ _; rw [HNX.out.2.2]; exact HNX.out.1
              have HPK : Hid (Keeps w wf) := HK5.out.then (Chg.kept ((((Chg.refl _ w5).alloc _).trans hchg).mono (T' := fun b => w.heap.size ≤ b) fun b _ hb => (own_block HU25.out b hb).1) hz5) (Nat.le_refl _)
              clear hown hchg hloc
              go_wp2_with fail
              exact ⟨⟨m + 1, by omega, by omega, by go_num, HP1, HP2, HPA, HPL, HPK⟩, by simp [intOf]; omega⟩
    · have HFL : Hid (SH.primesB m = SH.primesL) := SH.primesB_full (by have := HKL.out; have := hL.out; omega)
      have g1 : ¬ ((us2.length : Int) < 64) := by omega
      have H64 : (SH.primesB m).length = 64 := by rw [HFL.out]; rfl
      have HR1 : Hid (SeqIn (w.heap.size ≤ ·) 81 IsU32 wr.heap u2 SH.HL) := by
        have h1 := hO1.out
        rw [H64] at h1
        have h2 : OwnSeq w.heap.size 81 IsU32 wr u2 SH.HL := by rwa [List.take_of_length_le (show SH.HL.length ≤ 64 by decide)] at h1
        exact h2.seq (by decide)
      have HR2 : Hid (SeqIn (w.heap.size ≤ ·) 81 IsU32 wr.heap (.slice p2 us2.length q2) SH.KL) := by
        have h1 := hO2.out
        rw [H64] at h1
        have h2 : OwnSeq w.heap.size 81 IsU32 wr (.slice p2 us2.length q2) SH.KL := by rwa [List.take_of_length_le (show SH.KL.length ≤ 64 by decide)] at h1
        exact h2.seq (by decide)
      clear hO1 hO2 H64 HFL
      go_wp2
      go_ret2
      exact ⟨_, _, rfl, HR1.out, HR2.out, hK.out⟩
end Go.Proofs.Yteandjophamipaa
