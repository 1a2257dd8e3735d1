/- A row of bytes in a block of its own; solve's closures times and plus, that write over it. -/
import Derived.Test.YtllfhaocdknejaaDoorRowG
import Derived.Test.YtllfhaocdknejaaDoorRows5
namespace Go.Proofs.YtllfhaocdknejaaDoor
open Go.RowKit

set_option maxRecDepth 100000 in
set_option maxHeartbeats 2000000 in
theorem times_any (r n κ bf tb : Nat) (f : Nat → UInt8) (x : UInt8) (w : World) (hn : n ≤ 4096) (hr : RowF w.heap r n f) (cf : w.cell? ⟨bf, 0, none⟩ = some (.pointer (some ⟨tb, 0, none⟩))) (ht : Tab w.heap tb) (h1 : bf ≠ r) (h2 : tb ≠ r) :
    Calls Tryd.prog 65 #[.slice (some ⟨r, 0, none⟩) n κ, .int .u8 (x.toNat : Int), .pointer (some ⟨bf, 0, none⟩)] w fun e w' => e = .returned (.tuple #[]) ∧ RowF w'.heap r n (fun j => LA.mul (f j) x) ∧ Chg (fun b => b = r) w w' := by
  have HR := Lib.hid hr
  have HF := Lib.hid cf
  have HT := Lib.hid ht
  clear hr cf ht
  go_enter Tryd.func65, Tryd.ntmps65
  go_wp2
  go_loopw [8] (fun i wr => ∃ k : Nat, k ≤ n ∧ i = .int .i64 k ∧ Hid (RowF wr.heap r n (fun j => if j < k then LA.mul (f j) x else f j)) ∧ Hid (Chg (fun b => b = r) w wr)) (fun i _ => n - (intOf i).toNat)
  case atStart => exact ⟨0, by omega, rfl, HR.out.congr fun j _ => by (try dsimp only); rw [if_neg (by omega)], Chg.refl _ _⟩
  case round =>
    obtain ⟨k, hk, rfl, hR, hC⟩ := hrel
    by_cases hlt : k < n
    · have i1 : (k : Int) < (n : Int) := by omega
      have i0 : (0 : Int) ≤ (k : Int) := by omega
      obtain ⟨f1, c1⟩ := hR.out.2 k hlt
      rw [← froz_of] at f1
      rw [← cell_of] at c1
      dsimp only at c1
      rw [if_neg (by omega)] at c1
      have c2 : wr.cell? ⟨bf, 0, none⟩ = some (.pointer (some ⟨tb, 0, none⟩)) := by
        rw [cell_of]; exact cellH_chg hC.out (by rw [← cell_of]; exact HF.out) h1
      have hT : Hid (Tab wr.heap tb) := HT.out.chg hC.out h2
      have HN : Hid (∀ y : UInt8, LA.mul (f k) x = y → RowF (wr.setCell ⟨r, k, none⟩ (.int .u8 (y.toNat : Int))).heap r n (fun j => if j < k + 1 then LA.mul (f j) x else f j)) := fun y hy =>
        (hR.out.set hlt y).congr fun j hj => by
          (try dsimp only)
          by_cases e : j = k
          · subst e; rw [if_pos rfl, if_pos (by omega), hy]
          · rw [if_neg e]
            by_cases e2 : j < k
            · rw [if_pos e2, if_pos (by omega)]
            · rw [if_neg e2, if_neg (by omega)]
      generalize f k = y at *
      generalize hs : LA.mul y x = s at *
      have HS := Lib.hid hs
      clear hs
      go_wp2_with fail
      go_region_with ((go_at_call 48; refine Calls.mono (gmul_e _ _ _ s _ HS.out ?_) ?_; exact hT.out; rintro e w' ⟨rfl, n9, rfl⟩))
      all_goals
        go_wp2_with fail
        exact ⟨⟨k + 1, by omega, rfl, HN.out s rfl, Chg.setCell (T := fun b => b = r) hC.out (fun _ => rfl) _⟩, by simp [intOf]; omega⟩
    · obtain rfl : k = n := by omega
      go_wp2
      go_end0
      exact ⟨rfl, hR.out.congr fun j hj => by (try dsimp only); rw [if_pos hj], hC.out⟩

set_option maxRecDepth 100000 in
set_option maxHeartbeats 2000000 in
theorem plus_any (r q n κ κ' bf tb : Nat) (f g : Nat → UInt8) (x : UInt8) (w : World) (hn : n ≤ 4096) (hr : RowF w.heap r n f) (hq : RowF w.heap q n g) (cf : w.cell? ⟨bf, 0, none⟩ = some (.pointer (some ⟨tb, 0, none⟩))) (ht : Tab w.heap tb) (h1 : bf ≠ r) (h2 : tb ≠ r) (h3 : q ≠ r) :
    Calls Tryd.prog 66 #[.slice (some ⟨r, 0, none⟩) n κ, .slice (some ⟨q, 0, none⟩) n κ', .int .u8 (x.toNat : Int), .pointer (some ⟨bf, 0, none⟩)] w fun e w' => e = .returned (.tuple #[]) ∧ RowF w'.heap r n (fun j => f j ^^^ LA.mul (g j) x) ∧ Chg (fun b => b = r) w w' := by
  have HR := Lib.hid hr
  have HQ := Lib.hid hq
  have HF := Lib.hid cf
  have HT := Lib.hid ht
  clear hr cf ht hq
  go_enter Tryd.func66, Tryd.ntmps66
  go_wp2
  go_loopw [10] (fun i wr => ∃ k : Nat, k ≤ n ∧ i = .int .i64 k ∧ Hid (RowF wr.heap r n (fun j => if j < k then f j ^^^ LA.mul (g j) x else f j)) ∧ Hid (Chg (fun b => b = r) w wr)) (fun i _ => n - (intOf i).toNat)
  case atStart => exact ⟨0, by omega, rfl, HR.out.congr fun j _ => by (try dsimp only); rw [if_neg (by omega)], Chg.refl _ _⟩
  case round =>
    obtain ⟨k, hk, rfl, hR, hC⟩ := hrel
    by_cases hlt : k < n
    · have i1 : (k : Int) < (n : Int) := by omega
      have i0 : (0 : Int) ≤ (k : Int) := by omega
      obtain ⟨f1, c1⟩ := hR.out.2 k hlt
      rw [← froz_of] at f1
      rw [← cell_of] at c1
      dsimp only at c1
      rw [if_neg (by omega)] at c1
      obtain ⟨_, c3⟩ := (HQ.out.chg hC.out h3).2 k hlt
      rw [← cell_of] at c3
      have c2 : wr.cell? ⟨bf, 0, none⟩ = some (.pointer (some ⟨tb, 0, none⟩)) := by
        rw [cell_of]; exact cellH_chg hC.out (by rw [← cell_of]; exact HF.out) h1
      have hT : Hid (Tab wr.heap tb) := HT.out.chg hC.out h2
      have HN : Hid (∀ y : UInt8, f k ^^^ LA.mul (g k) x = y → RowF (wr.setCell ⟨r, k, none⟩ (.int .u8 (y.toNat : Int))).heap r n (fun j => if j < k + 1 then f j ^^^ LA.mul (g j) x else f j)) := fun y hy =>
        (hR.out.set hlt y).congr fun j hj => by
          (try dsimp only)
          by_cases e : j = k
          · subst e; rw [if_pos rfl, if_pos (by omega), hy]
          · rw [if_neg e]
            by_cases e2 : j < k
            · rw [if_pos e2, if_pos (by omega)]
            · rw [if_neg e2, if_neg (by omega)]
      generalize f k = y at *
      generalize g k = z at *
      generalize hs : LA.mul z x = s at *
      generalize hu : y ^^^ s = u at *
      have HS := Lib.hid hs
      have HU := Lib.hid hu
      clear hs hu
      go_wp2_with fail
      refine wp_region_tail (List.dropLast _) (List.getLast _ (List.cons_ne_nil _ _)) (List.dropLast_concat_getLast _).symm (by kernel_rfl) (by kernel_rfl) (by kernel_rfl) (by kernel_rfl) rfl (by kernel_rfl) ?_; simp only [List.dropLast_cons_cons, List.dropLast_singleton, List.getLast_cons_cons, List.getLast_singleton]; (repeat (go_big_quiet_step ((first | (go_at_call 48; refine Calls.mono (gmul_e _ _ _ s _ HS.out ?_) ?_; exact hT.out; rintro e w' ⟨rfl, n9, rfl⟩; first | exact ⟨rfl, _, rfl⟩ | exact ⟨rfl, _, World.drewN_drewN _ _ _⟩) | (go_at_call 47; refine Calls.mono (gadd_e _ _ _ u _ HU.out) ?_; rintro e w' ⟨rfl, rfl⟩; exact ⟨rfl, _, rfl⟩))))); refine wpQuiet_nil ?_; intro _ hw1; obtain ⟨nq, hw2⟩ := hw1; subst hw2
      all_goals
        go_wp2_with fail
        exact ⟨⟨k + 1, by omega, rfl, HN.out u rfl, Chg.setCell (T := fun b => b = r) hC.out (fun _ => rfl) _⟩, by simp [intOf]; omega⟩
    · obtain rfl : k = n := by omega
      go_wp2
      go_end0
      exact ⟨rfl, hR.out.congr fun j hj => by (try dsimp only); rw [if_pos hj], hC.out⟩
end Go.Proofs.YtllfhaocdknejaaDoor
