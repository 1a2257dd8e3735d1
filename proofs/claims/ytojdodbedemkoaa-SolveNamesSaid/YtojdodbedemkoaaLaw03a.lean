/- The walk of the law MatrixCodes. -/
import Derived.Test.YtojdodbedemkoaaSame03
namespace Go.Proofs.Ytojdodbedemkoaa
open Go.RowKit

set_option maxRecDepth 100000 in
set_option maxHeartbeats 2000000 in
theorem codes_any (k n m : Int) (w : World) :
    Calls Try.prog 3 #[.agg #[.int .i64 k, .int .i64 n], .int .i64 m] w fun e w' => e = .returned (.bool true) ∧ Keeps w w' := by
  go_enter Try.func3, Try.ntmps3
  go_wp2_with fail
  refine Calls.mono (refof_any _ _ _) ?_
  rintro e w1 ⟨va, rfl, hma, hk1⟩
  have c0 : w1.cell? ⟨w.heap.size, 0, none⟩ = some (.int .i64 k) := keeps_cell hk1 (World.cell?_alloc_new _ _ _ _)
  have c1 : w1.cell? ⟨w.heap.size, 1, none⟩ = some (.int .i64 n) := keeps_cell hk1 (World.cell?_alloc_new _ _ _ _)
  have hka : Keeps w w1 := ((Kept.refl _ w).alloc (Nat.le_refl _) _).call hk1 (Nat.le_refl _)
  go_wp2_with fail
  refine Calls.mono (refone_any _ _) ?_
  rintro e w2 ⟨vb, rfl, hmb, hk2⟩
  have c0 := keeps_cell hk2 c0
  have c1 := keeps_cell hk2 c1
  have hA := MatAt.keeps hma.at_ hk2
  have hB := hmb.at_
  have hkb : Keeps w w2 := hka.call hk2 (Nat.le_refl _)
  clear hma hmb hk1 hk2 hka
  go_wp2_with fail
  go_loopw [9] (fun i wr => ∃ r : Nat, r ≤ 2 ∧ i = .int .i64 r ∧ Hid (Keeps w2 wr)) (fun i _ => 2 - (intOf i).toNat)
  case atStart => exact ⟨0, by omega, rfl, keeps_refl w2⟩
  case round =>
    obtain ⟨r, hr, rfl, hk⟩ := hrel
    have d0 := keeps_cell hk.out c0
    have d1 := keeps_cell hk.out c1
    clear c0 c1
    by_cases hlt : r < 2
    · go_wp2_with fail
      refine Calls.mono (matof_any _ _ _) ?_
      rintro e w3 ⟨vx, rfl, hmx, hk3⟩
      go_wp2_with fail
      refine Calls.mono (matone_any _ _) ?_
      rintro e w4 ⟨vy, rfl, hmy, hk4⟩
      have hx := hmx.bound.keeps hk4
      have hy := hmy
      have hka : Keeps w2 w4 := (hk.out.call hk3 (Nat.le_refl _)).call hk4 (Nat.le_refl _)
      have hA4 := hA.keeps hka
      have hB4 := hB.keeps hka
      go_wp2_with fail
      refine Calls.mono (same03_any _ _ _ _ w4 hA4 hx.at_) ?_
      rintro e w' ⟨rfl, n1, rfl⟩
      go_wp2_with fail
      refine Calls.mono (same03_any _ _ _ _ (w4.drewN n1) hB4 hy.at_) ?_
      rintro e w' ⟨rfl, n2, rfl⟩
      go_wp2_with fail
      refine Calls.mono (spoil_any _ _ _ (matW (h := w4.heap) hx)) ?_
      rintro e w5 ⟨rfl, hc5⟩
      have hy5 : MatIn (w3.heap.size ≤ ·) w5.heap vy (oneM m).1 := MatIn.chg (w := (w4.drewN n1).drewN n2) hy hc5 fun b _ h1 h2 => by omega
      go_wp2_with fail
      refine Calls.mono (spoil_any _ _ _ (matW hy5)) ?_
      rintro e w6 ⟨rfl, hc6⟩
      have hk6 : Hid (Keeps w2 w6) := by
        have h3 := hk.out.size
        have h4 := hk3.size
        have c1 : Chg (fun b => w2.heap.size ≤ b) w2 w4 := hka.chg
        have c2 : Chg (fun b => w2.heap.size ≤ b) w4 w5 := Chg.mono (w := w4) hc5 fun b _ h => Nat.le_trans h3 h.1
        have c3 : Chg (fun b => w2.heap.size ≤ b) w5 w6 := hc6.mono fun b _ h => Nat.le_trans (Nat.le_trans h3 h4) h
        exact ((c1.trans c2).trans c3).keeps fun b hb hx => by omega
      clear hA4 hB4 hka hx hy hy5 hc5 hc6
      go_wp2_with fail
      exact ⟨⟨r + 1, by omega, rfl, hk6⟩, by simp [intOf]; omega⟩
    · obtain rfl : r = 2 := by omega
      clear hA hB
      have hkw : Hid (Keeps w wr) := hkb.call hk.out (Nat.le_refl _)
      go_wp2_with fail
      go_region_with (first | (go_at_call 21; refine Calls.mono (maycode_any _ _ _) ?_; rintro e w5 ⟨rfl, hk5⟩; have d0 := keeps_cell hk5 d0; have d1 := keeps_cell hk5 d1) | (go_at_call 22; refine Calls.mono (refmaycode_any _ _ _) ?_; rintro e w6 ⟨rfl, hk6⟩; have d0 := keeps_cell hk6 d0; have d1 := keeps_cell hk6 d1))
      all_goals
        have hk7 : Hid (Keeps w w6) := by first | exact (Kept.call hkw.out hk5 (Nat.le_refl _)).call hk6 (Nat.le_refl _) | exact (Kept.call hkw.out hk6 (Nat.le_refl _)).call hk5 (Nat.le_refl _)
        clear hk5 hk6
        go_wp2
        try go_ret
        exact ⟨rfl, hk7.out⟩
end Go.Proofs.Ytojdodbedemkoaa
