/- The walks of code.Size and of the reference's Size. -/
import Derived.Test.YtllfhaocdknejaaDoorCodeM
import Derived.Test.YtllfhaocdknejaaDoorRefGm
import Derived.Deep.Cut
namespace Go.Proofs.YtllfhaocdknejaaDoor
open Go.RowKit
set_option maxHeartbeats 1000000 in
theorem csize_any (k n len : Int) (w : World) (hn : len ≤ 9223372036854775807) (hn2 : -9223372036854775808 ≤ len) : Calls Tryd.prog 15 #[.agg #[.int .i64 k, .int .i64 n], .int .i64 len] w fun e w' => e = .returned (.tuple #[.int .i64 (sizeC k n len).1, .int .i64 (sizeC k n len).2]) ∧ Keeps w w' := by
  cases hb : codeB k n with
  | false =>
    have HS := Lib.hid (sizeC_bad (len := len) hb)
    have HB := Lib.hid hb
    rw [HS.out]
    clear hb
    go_enter Tryd.func15, Tryd.ntmps15
    go_wp2_with fail
    refine Calls.mono (maycode_any _ _ _) ?_
    rintro e w1 ⟨rfl, hk1⟩
    rw [HB.out]
    go_wp2
    go_ret2
    exact ⟨rfl, (kal w _).trans hk1⟩
  | true =>
    obtain ⟨h1, h2, h3⟩ := codeB_true.1 hb
    have HB := Lib.hid hb
    by_cases hlt : len < 0
    · have HS := Lib.hid (sizeC_neg (k := k) (n := n) hlt)
      rw [HS.out]
      clear hb
      go_enter Tryd.func15, Tryd.ntmps15
      go_wp2_with fail
      refine Calls.mono (maycode_any _ _ _) ?_
      rintro e w1 ⟨rfl, hk1⟩
      rw [HB.out]
      go_wp2
      go_ret2
      exact ⟨rfl, (kal w _).trans hk1⟩
    · by_cases hgt : 32768 < len
      · have HS := Lib.hid (sizeC_big hb hgt)
        rw [HS.out]
        clear hb
        go_enter Tryd.func15, Tryd.ntmps15
        go_wp2_with fail
        refine Calls.mono (maycode_any _ _ _) ?_
        rintro e w1 ⟨rfl, hk1⟩
        rw [HB.out]
        go_wp2
        go_ret2
        exact ⟨rfl, (kal w _).trans hk1⟩
      · obtain ⟨K, rfl⟩ := Int.eq_ofNat_of_zero_le (show 0 ≤ k by omega)
        obtain ⟨m, rfl⟩ := Int.eq_ofNat_of_zero_le (show 0 ≤ len by omega)
        have HS := Lib.hid (sizeC_yes hb (show m ≤ 32768 by omega))
        rw [HS.out]
        have HQ : Hid ((8 + (m : Int) + (K : Int) - 1) / (K : Int) = ((sizeN K m : Nat) : Int)) := by
          show _ = _
          unfold sizeN
          rw [Int.natCast_ediv]
          congr 1
          omega
        have hm0 : (0 : Int) ≤ (m : Int) := by omega
        have hm1 : (m : Int) ≤ 32768 := by omega
        clear hb
        go_enter Tryd.func15, Tryd.ntmps15
        go_wp2_with fail
        refine Calls.mono (maycode_any _ _ _) ?_
        rintro e w1 ⟨rfl, hk1⟩
        rw [HB.out]
        have c0 : w1.cell? ⟨w.heap.size, 0, none⟩ = some (.int .i64 (K : Int)) := keeps_cell hk1 (World.cell?_alloc_new _ _ _ _)
        have hk : Keeps w w1 := (kal w _).trans hk1
        clear hk1
        go_wp2
        go_ret2
        exact ⟨by rw [← HQ.out]; rfl, hk⟩
set_option maxHeartbeats 1000000 in
theorem rsize_any (k n len : Int) (w : World) (hn : len ≤ 9223372036854775807) (hn2 : -9223372036854775808 ≤ len) : Calls Tryd.prog 34 #[.agg #[.int .i64 k, .int .i64 n], .int .i64 len] w fun e w' => e = .returned (.tuple #[.int .i64 (sizeC k n len).1, .int .i64 (sizeC k n len).2]) ∧ Keeps w w' := by
  cases hb : codeB k n with
  | false =>
    have HS := Lib.hid (sizeC_bad (len := len) hb)
    have HB := Lib.hid hb
    rw [HS.out]
    clear hb
    go_enter Tryd.func34, Tryd.ntmps34
    go_wp2_with fail
    refine Calls.mono (refmaycode_any _ _ _) ?_
    rintro e w1 ⟨rfl, hk1⟩
    rw [HB.out]
    go_wp2
    go_ret2
    exact ⟨rfl, (kal w _).trans hk1⟩
  | true =>
    obtain ⟨h1, h2, h3⟩ := codeB_true.1 hb
    have HB := Lib.hid hb
    by_cases hlt : len < 0
    · have HS := Lib.hid (sizeC_neg (k := k) (n := n) hlt)
      rw [HS.out]
      clear hb
      go_enter Tryd.func34, Tryd.ntmps34
      go_wp2_with fail
      refine Calls.mono (refmaycode_any _ _ _) ?_
      rintro e w1 ⟨rfl, hk1⟩
      rw [HB.out]
      go_wp2
      go_ret2
      exact ⟨rfl, (kal w _).trans hk1⟩
    · by_cases hgt : 32768 < len
      · have HS := Lib.hid (sizeC_big hb hgt)
        rw [HS.out]
        clear hb
        go_enter Tryd.func34, Tryd.ntmps34
        go_wp2_with fail
        refine Calls.mono (refmaycode_any _ _ _) ?_
        rintro e w1 ⟨rfl, hk1⟩
        rw [HB.out]
        go_wp2
        go_ret2
        exact ⟨rfl, (kal w _).trans hk1⟩
      · obtain ⟨K, rfl⟩ := Int.eq_ofNat_of_zero_le (show 0 ≤ k by omega)
        obtain ⟨m, rfl⟩ := Int.eq_ofNat_of_zero_le (show 0 ≤ len by omega)
        have HS := Lib.hid (sizeC_yes hb (show m ≤ 32768 by omega))
        rw [HS.out]
        have hm0 : (0 : Int) ≤ (m : Int) := by omega
        have hm1 : (m : Int) ≤ 32768 := by omega
        have hK1 : 1 ≤ K := by omega
        have hK12 : K ≤ 12 := by omega
        have HT := Lib.hid (sizeN_mul (m := m) hK1)
        clear hb
        go_enter Tryd.func34, Tryd.ntmps34
        go_wp2_with fail
        refine Calls.mono (refmaycode_any _ _ _) ?_
        rintro e w1 ⟨rfl, hk1⟩
        rw [HB.out]
        have c0 : w1.cell? ⟨w.heap.size, 0, none⟩ = some (.int .i64 (K : Int)) := keeps_cell hk1 (World.cell?_alloc_new _ _ _ _)
        have hk : Keeps w w1 := (kal w _).trans hk1
        clear hk1
        go_wp2_with fail
        go_loop [6] (fun i => ∃ a : Nat, 8 + m ≤ a ∧ a ≤ sizeN K m * K ∧ i = .int .i64 a) (fun i => sizeN K m * K - (intOf i).toNat)
        case atStart => exact ⟨8 + m, by omega, HT.out.1, by go_num⟩
        case round =>
          obtain ⟨a, ha1, ha2, rfl⟩ := hrel
          have hab : a ≤ 40000 := by have := HT.out.2; omega
          have HL := Lib.hid (fun h => sizeN_least (m := m) (a := a) hK1 ha1 h)
          by_cases hr : a % K = 0
          · have he : a = sizeN K m * K := by have := HL.out hr; omega
            have r1 : ((a : Int) % (K : Int) != 0) = false := by
              have : (a : Int) % (K : Int) = 0 := by omega
              rw [this]; rfl
            have HQ : Hid (wrap64 ((a : Int) / (K : Int)) = ((sizeN K m : Nat) : Int)) := by
              show _ = _
              rw [he, ← Int.natCast_ediv, Nat.mul_div_cancel _ hK1]
              have := sizeN_le (m := m) hK1
              exact IntWalk.wrap64_in _ (by omega)
            clear he hr
            go_wp2
            go_ret2
            exact ⟨by rw [← HQ.out]; rfl, hk⟩
          · have r1 : ((a : Int) % (K : Int) != 0) = true := by
              rw [bne_iff_ne]; omega
            have ha3 : a + 1 ≤ sizeN K m * K := by
              rcases Nat.lt_or_ge a (sizeN K m * K) with h | h
              · exact h
              · exact absurd (by rw [show a = sizeN K m * K from by omega, Nat.mul_mod_left]) hr
            clear hr
            go_wp2
            exact ⟨⟨a + 1, by omega, ha3, by go_num⟩, by simp [intOf]; omega⟩
end Go.Proofs.YtllfhaocdknejaaDoor
