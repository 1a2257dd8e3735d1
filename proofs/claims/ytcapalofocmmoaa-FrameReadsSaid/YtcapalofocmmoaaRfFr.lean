/- The walks of the reference's frame: whether it may be, its bytes, which stamp is less. -/
import Derived.Test.YtcapalofocmmoaaFrRead
import Derived.Test.YtcapalofocmmoaaRefSums
namespace Go.Proofs.Ytcapalofocmmoaa
open Go.RowKit
set_option maxHeartbeats 1000000 in
theorem refmaycode_any (k n : Int) (w : World) :
    Calls Try.prog 68 #[.agg #[.int .i64 k, .int .i64 n]] w fun e w' => e = .returned (.bool (codeB k n)) ∧ Keeps w w' := by
  cases hb : codeB k n with
  | true =>
    obtain ⟨h1, h2, h3⟩ := codeB_true.1 hb
    have h4 : n < 13 := by omega
    go_enter Try.func68, Try.ntmps68
    go_wp2
    go_ret
    exact ⟨rfl, (Kept.refl _ _).alloc (Nat.le_refl _) _⟩
  | false =>
    have h := codeB_false.1 hb
    by_cases h1 : 1 ≤ k
    · by_cases h2 : k ≤ n
      · have h3 : ¬ n < 13 := by omega
        clear h hb
        go_enter Try.func68, Try.ntmps68
        go_wp2
        go_ret
        exact ⟨rfl, (Kept.refl _ _).alloc (Nat.le_refl _) _⟩
      · clear h hb
        go_enter Try.func68, Try.ntmps68
        go_wp2
        go_ret
        exact ⟨rfl, (Kept.refl _ _).alloc (Nat.le_refl _) _⟩
    · clear h hb
      go_enter Try.func68, Try.ntmps68
      go_wp2
      go_ret
      exact ⟨rfl, (Kept.refl _ _).alloc (Nat.le_refl _) _⟩


theorem four_row2 (n : Nat) : ∀ i (hi : i < (SH.four n).length), ∃ u, (#[.int .u8 ((n : Int) / 16777216 % 256), .int .u8 ((n : Int) / 65536 % 256), .int .u8 ((n : Int) / 256 % 256), .int .u8 ((n : Int) % 256)] : Array Value)[i]? = some u ∧ IsByte u (SH.four n)[i] := by
  intro i hi
  have h4 : (SH.four n).length = 4 := rfl
  have e0 : ((UInt8.ofNat (n / 16777216)).toNat : Int) = (n : Int) / 16777216 % 256 := by rw [UInt8.toNat_ofNat']; omega
  have e1 : ((UInt8.ofNat (n / 65536)).toNat : Int) = (n : Int) / 65536 % 256 := by rw [UInt8.toNat_ofNat']; omega
  have e2 : ((UInt8.ofNat (n / 256)).toNat : Int) = (n : Int) / 256 % 256 := by rw [UInt8.toNat_ofNat']; omega
  have e3 : ((UInt8.ofNat n).toNat : Int) = (n : Int) % 256 := by rw [UInt8.toNat_ofNat']; omega
  match i, hi with
  | 0, _ => exact ⟨_, rfl, by show _ = Value.int .u8 _; rw [← e0]; rfl⟩
  | 1, _ => exact ⟨_, rfl, by show _ = Value.int .u8 _; rw [← e1]; rfl⟩
  | 2, _ => exact ⟨_, rfl, by show _ = Value.int .u8 _; rw [← e2]; rfl⟩
  | 3, _ => exact ⟨_, rfl, by show _ = Value.int .u8 _; rw [← e3]; rfl⟩
  | n + 4, h => omega
set_option maxRecDepth 100000 in
set_option maxHeartbeats 4000000 in
theorem rffour_any (n : Nat) (w : World) (hn : n ≤ 140737488355328) : Calls Try.prog 53 #[.int .i64 (n : Int)] w fun e w' => e = .returned (.string (strB (SH.four n))) ∧ Keeps w w' := by
  have hra : RowAt (w.alloc (.cells #[.int .u8 ((n : Int) / 16777216 % 256), .int .u8 ((n : Int) / 65536 % 256), .int .u8 ((n : Int) / 256 % 256), .int .u8 ((n : Int) % 256)] 5)).heap (.slice (some ⟨w.heap.size, 0, none⟩) 4 4) (SH.four n) := seqAt_lit w _ _ _ 4 4 rfl (by omega) (four_row2 n)
  have hcv := conv_row (P := Try.prog) (src := 59) (dst := 9) (e := 5) Try.underlying59 (by kernel_rfl) Try.underlying9 hra
  go_enter Try.func53, Try.ntmps53
  go_wp2_with fail
  go_ret
  exact ⟨rfl, kal _ _⟩
set_option maxRecDepth 100000 in
set_option maxHeartbeats 4000000 in
theorem rfmay_any (ep gen k n : Int) (b : ByteArray) (w : World) : Calls Try.prog 52 #[frV ep gen k n b] w fun e w' => e = .returned (.bool (mayF ep gen k n)) ∧ Keeps w w' := by
  unfold frV
  have HE : Hid (mayF ep gen k n = (cntF ep && cntF gen && codeB k n)) := rfl
  have HC : Hid (∀ x : Int, cntF x = decide (0 ≤ x ∧ x ≤ 2147483647)) := fun x => rfl
  by_cases a0 : 0 ≤ ep
  case neg =>
    have HF : Hid (mayF ep gen k n = false) := by show _ = _; rw [HE.out, HC.out, decide_eq_false (fun x => a0 x.1)]; rfl
    go_enter Try.func52, Try.ntmps52
    go_wp2_with fail
    go_ret
    exact ⟨by rw [HF.out]; rfl, kal _ _⟩
  by_cases a1 : ep < 2147483648
  case neg =>
    have HF : Hid (mayF ep gen k n = false) := by show _ = _; rw [HE.out, HC.out, decide_eq_false (fun x => a1 (by omega))]; rfl
    go_enter Try.func52, Try.ntmps52
    go_wp2_with fail
    go_ret
    exact ⟨by rw [HF.out]; rfl, kal _ _⟩
  have C1 : Hid (cntF ep = true) := by show _ = _; rw [HC.out]; exact decide_eq_true ⟨a0, by omega⟩
  by_cases a2 : 0 ≤ gen
  case neg =>
    have HF : Hid (mayF ep gen k n = false) := by show _ = _; rw [HE.out, C1.out, HC.out, decide_eq_false (fun x => a2 x.1)]; rfl
    go_enter Try.func52, Try.ntmps52
    go_wp2_with fail
    go_ret
    exact ⟨by rw [HF.out]; rfl, kal _ _⟩
  by_cases a3 : gen < 2147483648
  case neg =>
    have HF : Hid (mayF ep gen k n = false) := by show _ = _; rw [HE.out, C1.out, HC.out, decide_eq_false (fun x => a3 (by omega))]; rfl
    go_enter Try.func52, Try.ntmps52
    go_wp2_with fail
    go_ret
    exact ⟨by rw [HF.out]; rfl, kal _ _⟩
  have C2 : Hid (cntF gen = true) := by show _ = _; rw [HC.out]; exact decide_eq_true ⟨a2, by omega⟩
  have HF : Hid (mayF ep gen k n = codeB k n) := by show _ = _; rw [HE.out, C1.out, C2.out]; rfl
  clear HE HC C1 C2
  go_enter Try.func52, Try.ntmps52
  go_wp2_with fail
  refine Calls.mono (refmaycode_any k n _) ?_
  rintro e w1 ⟨rfl, hk⟩
  have HK : Hid (Keeps w w1) := Keeps.trans (kal w _) hk
  clear hk
  go_wp2_with fail
  go_ret
  exact ⟨by rw [HF.out]; rfl, HK.out⟩
set_option maxRecDepth 100000 in
set_option maxHeartbeats 4000000 in
theorem rfless_any (a1 a2 b1 b2 : Int) (w : World) : Calls Try.prog 34 #[stV a1 a2, stV b1 b2] w fun e w' => e = .returned (.bool (lessF a1 a2 b1 b2)) ∧ Keeps w w' := by
  unfold stV
  have HE : Hid (lessF a1 a2 b1 b2 = decide (a1 < b1 ∨ (a1 = b1 ∧ a2 < b2))) := rfl
  by_cases h1 : a1 < b1
  · have HF : Hid (lessF a1 a2 b1 b2 = true) := by show _ = _; rw [HE.out]; exact decide_eq_true (.inl h1)
    go_enter Try.func34, Try.ntmps34
    go_wp2_with fail
    go_ret
    exact ⟨by rw [HF.out]; rfl, (kal _ _).trans (kal _ _)⟩
  · by_cases h2 : a1 = b1
    · subst h2
      by_cases h3 : a2 < b2
      · have HF : Hid (lessF a1 a2 a1 b2 = true) := by show _ = _; rw [HE.out]; exact decide_eq_true (.inr ⟨rfl, h3⟩)
        clear h1
        go_enter Try.func34, Try.ntmps34
        go_wp2_with fail
        go_ret
        exact ⟨by rw [HF.out]; rfl, (kal _ _).trans (kal _ _)⟩
      · have HF : Hid (lessF a1 a2 a1 b2 = false) := by show _ = _; rw [HE.out]; exact decide_eq_false (by omega)
        clear h1
        go_enter Try.func34, Try.ntmps34
        go_wp2_with fail
        go_ret
        exact ⟨by rw [HF.out]; rfl, (kal _ _).trans (kal _ _)⟩
    · have HF : Hid (lessF a1 a2 b1 b2 = false) := by show _ = _; rw [HE.out]; exact decide_eq_false (by omega)
      have g2 : decide (a1 = b1) = false := decide_eq_false h2
      have g3 : (a1 == b1) = false := beq_false_of_ne h2
      go_enter Try.func34, Try.ntmps34
      go_wp2_with fail
      go_ret
      exact ⟨by rw [HF.out]; rfl, (kal _ _).trans (kal _ _)⟩
end Go.Proofs.Ytcapalofocmmoaa
