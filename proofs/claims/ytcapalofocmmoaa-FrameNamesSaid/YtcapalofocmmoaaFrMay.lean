/- A frame, as plain functions; the walks of its small functions: whether it may be, its numbers, which stamp is less. -/
import Derived.Test.YtcapalofocmmoaaShaSum
import Derived.Test.YtcapalofocmmoaaStrCut
namespace Go.Proofs.Ytcapalofocmmoaa
open Go.RowKit
def codeB (k n : Int) : Bool := decide (1 ≤ k ∧ k ≤ n ∧ n ≤ 12)
theorem codeB_true {k n : Int} : codeB k n = true ↔ 1 ≤ k ∧ k ≤ n ∧ n ≤ 12 := by unfold codeB; simp
theorem codeB_false {k n : Int} : codeB k n = false ↔ ¬ (1 ≤ k ∧ k ≤ n ∧ n ≤ 12) := by unfold codeB; simp
set_option maxHeartbeats 1000000 in
theorem maycode_any (k n : Int) (w : World) :
    Calls Try.prog 65 #[.agg #[.int .i64 k, .int .i64 n]] w fun e w' => e = .returned (.bool (codeB k n)) ∧ Keeps w w' := by
  cases hb : codeB k n with
  | true =>
    obtain ⟨h1, h2, h3⟩ := codeB_true.1 hb
    go_enter Try.func65, Try.ntmps65
    go_wp2
    go_ret
    exact ⟨rfl, (Kept.refl _ _).alloc (Nat.le_refl _) _⟩
  | false =>
    have h := codeB_false.1 hb
    by_cases h1 : 1 ≤ k
    · by_cases h2 : k ≤ n
      · have h3 : ¬ n ≤ 12 := by omega
        clear h hb
        go_enter Try.func65, Try.ntmps65
        go_wp2
        go_ret
        exact ⟨rfl, (Kept.refl _ _).alloc (Nat.le_refl _) _⟩
      · clear h hb
        go_enter Try.func65, Try.ntmps65
        go_wp2
        go_ret
        exact ⟨rfl, (Kept.refl _ _).alloc (Nat.le_refl _) _⟩
    · clear h hb
      go_enter Try.func65, Try.ntmps65
      go_wp2
      go_ret
      exact ⟨rfl, (Kept.refl _ _).alloc (Nat.le_refl _) _⟩


def cntF (n : Int) : Bool := decide (0 ≤ n ∧ n ≤ 2147483647)
def mayF (ep gen k n : Int) : Bool := cntF ep && cntF gen && codeB k n
/-- A frame, a stamp, a code as values. -/
def stV (ep gen : Int) : Value := .agg #[.int .i64 ep, .int .i64 gen]
def frV (ep gen k n : Int) (b : ByteArray) : Value := .agg #[.int .i64 ep, .int .i64 gen, .int .i64 k, .int .i64 n, .string b]
set_option maxHeartbeats 1000000 in
theorem frcnt_any (n : Int) (w : World) : Calls Try.prog 64 #[.int .i64 n] w fun e w' => e = .returned (.bool (cntF n)) ∧ w = w' := by
  by_cases h0 : 0 ≤ n
  · by_cases h1 : n ≤ 2147483647
    · have HE : Hid (cntF n = true) := decide_eq_true ⟨h0, h1⟩
      go_enter Try.func64, Try.ntmps64
      go_wp2
      go_ret
      exact ⟨by rw [HE.out]; rfl, rfl⟩
    · have HE : Hid (cntF n = false) := decide_eq_false fun x => h1 x.2
      go_enter Try.func64, Try.ntmps64
      go_wp2
      go_ret
      exact ⟨by rw [HE.out]; rfl, rfl⟩
  · have HE : Hid (cntF n = false) := decide_eq_false fun x => h0 x.1
    go_enter Try.func64, Try.ntmps64
    go_wp2
    go_ret
    exact ⟨by rw [HE.out]; rfl, rfl⟩
set_option maxRecDepth 100000 in
set_option maxHeartbeats 4000000 in
theorem frmay_any (ep gen k n : Int) (b : ByteArray) (w : World) : Calls Try.prog 48 #[frV ep gen k n b] w fun e w' => e = .returned (.bool (mayF ep gen k n)) ∧ Keeps w w' := by
  unfold frV
  have HE : Hid (mayF ep gen k n = (cntF ep && cntF gen && codeB k n)) := rfl
  go_enter Try.func48, Try.ntmps48
  go_wp2_with fail
  refine Calls.mono (frcnt_any ep _) ?_
  rintro e w1 ⟨rfl, rfl⟩
  cases h1 : cntF ep with
  | false =>
    have HF : Hid (mayF ep gen k n = false) := by show _ = _; rw [HE.out, h1]; rfl
    clear h1
    go_wp2_with fail
    go_ret
    exact ⟨by rw [HF.out]; rfl, kal _ _⟩
  | true =>
  go_wp2_with fail
  refine Calls.mono (frcnt_any gen _) ?_
  rintro e w1 ⟨rfl, rfl⟩
  cases h2 : cntF gen with
  | false =>
    have HF : Hid (mayF ep gen k n = false) := by show _ = _; rw [HE.out, h1, h2]; rfl
    clear h1 h2
    go_wp2_with fail
    go_ret
    exact ⟨by rw [HF.out]; rfl, kal _ _⟩
  | true =>
  have HF : Hid (mayF ep gen k n = codeB k n) := by show _ = _; rw [HE.out, h1, h2]; rfl
  clear h1 h2 HE
  go_wp2_with fail
  refine Calls.mono (maycode_any k n _) ?_
  rintro e w1 ⟨rfl, hk⟩
  have HK : Hid (Keeps w w1) := Keeps.trans (kal w _) hk
  clear hk
  go_wp2_with fail
  go_ret
  exact ⟨by rw [HF.out]; rfl, HK.out⟩
end Go.Proofs.Ytcapalofocmmoaa
