/- The walks of the examples and of the measure that package strongboxlaw15 asks first. -/
import Derived.Test.YteandjophamipaaReadLaw
namespace Go.Proofs.Yteandjophamipaa
open Go.RowKit
def aB : ByteArray := ⟨#[97]⟩
def bcB : ByteArray := ⟨#[98, 99]⟩
def abcB : ByteArray := ⟨#[112, 97, 107, 49, 0, 2, 0, 1, 0, 2, 97, 98, 99]⟩
theorem make1 : makeP [aB, bcB] = (abcB, [10, 11], 0) := by decide +kernel
theorem make2 : makeP [] = (ByteArray.empty, [], 4) := by decide +kernel
theorem make3 : makeP [aB, aB] = (ByteArray.empty, [], 4) := by decide +kernel
theorem make4 : makeP [ByteArray.empty] = (ByteArray.empty, [], 4) := by decide +kernel
theorem read1 : readP [112, 97, 107, 49, 0, 0] = ([], [], 4) := by decide +kernel
set_option maxRecDepth 100000 in
set_option maxHeartbeats 4000000 in
theorem pworks_any (w : World) : Calls Try.prog 23 #[] w fun e w' => e = .returned (.bool true) ∧ Keeps w w' := by
  go_enter Try.func23, Try.ntmps23
  go_wp2_with fail
  refine Calls.mono (makeP_e (pmake_any _ [aB, bcB] _ (textsAt_lit w [aB, bcB] 2 2 rfl (by omega))) make1) ?_
  rintro e w1 ⟨v1, rfl, ha, hk⟩
  obtain ⟨p1, q1, rfl⟩ := seq_shape (SeqIn.at_ ha)
  have HA := Lib.hid (SeqIn.at_ ha)
  have HK : Hid (Keeps w w1) := Keeps.trans (kal w _) hk
  clear ha hk
  go_wp2_with fail
  refine Calls.mono (makeP_e (pmake_any _ [] _ (SeqIn.at_ (SeqIn.nil (fun _ => True) 9 IsText _))) make2) ?_
  rintro e w2 ⟨v2, rfl, ha, hk⟩
  have HA := Lib.hid (SeqAt.keeps HA.out hk)
  have HK := Lib.hid (HK.out.call hk (Nat.le_refl _))
  clear ha hk
  go_wp2_with fail
  refine Calls.mono (makeP_e (pmake_any _ [aB, aB] _ (textsAt_lit w2 [aB, aB] 2 2 rfl (by omega))) make3) ?_
  rintro e w3 ⟨v3, rfl, ha, hk⟩
  have hk : Keeps w2 w3 := Keeps.trans (kal w2 _) hk
  have HA := Lib.hid (SeqAt.keeps HA.out hk)
  have HK := Lib.hid (HK.out.call hk (Nat.le_refl _))
  clear ha hk
  go_wp2_with fail
  refine Calls.mono (makeP_e (pmake_any _ [ByteArray.empty] _ (textsAt_lit w3 [ByteArray.empty] 1 1 rfl (by omega))) make4) ?_
  rintro e w4 ⟨v4, rfl, ha, hk⟩
  have hk : Keeps w3 w4 := Keeps.trans (kal w3 _) hk
  have HA := Lib.hid (SeqAt.keeps HA.out hk)
  have HK := Lib.hid (HK.out.call hk (Nat.le_refl _))
  clear ha hk
  go_wp2_with fail
  refine Calls.mono (readP_e (pread_any ⟨#[112, 97, 107, 49, 0, 0]⟩ _ (by decide)) read1) ?_
  rintro e w5 ⟨v5, u5, rfl, ha, hb, hk⟩
  have HA := Lib.hid (SeqAt.keeps HA.out hk)
  have HK := Lib.hid (HK.out.call hk (Nat.le_refl _))
  have ht : (abcB.toList == [112, 97, 107, 49, 0, 2, 0, 1, 0, 2, 97, 98, 99]) = true := by rw [toList_eq]; decide
  clear ha hb hk
  go_wp2_with fail
  refine Calls.mono (ints_same _ _ [10, 11] _ (HA.out.al _) (intsAt_lit w5 [10, 11] 2 2 rfl (by omega))) ?_
  rintro e w6 ⟨rfl, hk⟩
  have hk : Keeps w5 w6 := Keeps.trans (kal w5 _) hk
  have HK := Lib.hid (HK.out.call hk (Nat.le_refl _))
  clear hk
  go_wp2_with fail
  go_ret
  exact ⟨rfl, HK.out⟩
set_option maxRecDepth 100000 in
set_option maxHeartbeats 4000000 in
theorem pwide_any (v : Value) (l : List ByteArray) (w : World) (h : TextsAt w.heap v l) : Calls Try.prog 25 #[v] w (SomeBool w) := by
  obtain ⟨p, q, rfl⟩ := seq_shape h
  have hl63 : l.length ≤ 9223372036854775807 := let ⟨_, _, _, x, _⟩ := h; x
  have H := Lib.hid h
  clear h
  go_enter Try.func25, Try.ntmps25
  go_wp2_with fail
  go_loopw [3, 4] (fun t i wr => ∃ (k : Nat) (c : Int), k ≤ l.length ∧ i = .int .i64 k ∧ t = .int .i64 c ∧ wr = w) (fun _ i _ => l.length - (intOf i).toNat)
  case atStart => exact ⟨0, 0, by omega, rfl, rfl, rfl⟩
  case round =>
    obtain ⟨k, c, hk, rfl, rfl, rfl⟩ := hrel
    by_cases hlt : k < l.length
    · have hlt64 : (k : Int) < (l.length : Int) := by omega
      have hk0 : (0 : Int) ≤ (k : Int) := by omega
      by_cases hc : c < 60000
      · have g1 : decide (c < 60000) = true := decide_eq_true hc
        obtain ⟨b, off, cp, u, e5, d1, r1⟩ := seq_cell H.out hlt
        injection e5 with e6 e7 e8
        subst e6 e8
        unfold IsText at r1
        subst r1
        generalize l[k] = s at *
        clear e7
        go_wp2_with fail
        exact ⟨⟨k + 1, _, by omega, by go_num, rfl, (by first | rfl | trivial)⟩, by simp [intOf]; omega⟩
      · have g1 : decide (c < 60000) = false := decide_eq_false hc
        have g2 : decide (60000 ≤ c) = true := decide_eq_true (by omega)
        go_wp2_with fail
        go_ret
        exact ⟨_, rfl, rfl⟩
    · obtain rfl : k = l.length := by omega
      go_wp2_with fail
      all_goals
        go_ret
        exact ⟨_, rfl, rfl⟩
end Go.Proofs.Yteandjophamipaa
