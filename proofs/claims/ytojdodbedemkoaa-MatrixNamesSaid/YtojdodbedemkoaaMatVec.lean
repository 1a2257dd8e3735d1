/- The walk of matrix.Vec. -/
import Derived.Test.YtojdodbedemkoaaMatMul
namespace Go.Proofs.Ytojdodbedemkoaa
open Go.RowKit

set_option maxRecDepth 100000 in
set_option maxHeartbeats 4000000 in
theorem matvec_any (va vb : Value) (a : List (List UInt8)) (v : List UInt8) (w : World) (ha : MatAt w.heap va a) (hb : RowAt w.heap vb v) :
    Calls Try.prog 28 #[va, vb] w (GiveRow w (vecM a v)) := by
  have hmf : ∀ (fn : Fn) (first cap : Array Value) (w : World), (Instr.makeFunc fn first cap).run Try.prog w = .ok (.func fn first cap) w := fun _ _ _ _ => rfl
  obtain ⟨pa, qa, rfl⟩ := seq_shape ha
  obtain ⟨pb, qb, rfl⟩ := seq_shape hb
  obtain ⟨hk0, ca, cb⟩ := box2 w (.slice pa a.length qa) (.slice pb v.length qb) 24 33
  have HK := Lib.hid hk0
  have HA := Lib.hid (ha.keeps hk0)
  have HB := Lib.hid (SeqAt.keeps hb hk0)
  clear hk0
  cases ma : mayB 12 a with
  | false =>
    have e : Hid (vecM a v = ([], 4)) := by show _ = _; unfold vecM; rw [ma]; rfl
    have MA := Lib.hid ma
    clear ha hb ma
    go_enter Try.func28, Try.ntmps28
    go_wp2_with fail
    generalize (w.alloc (.cells #[.slice pa a.length qa] 24)).alloc (.cells #[.slice pb v.length qb] 33) = w2 at *
    go_region_with (first | (go_at_call 30; refine Calls.mono (may_no _ a _ HA.out MA.out) ?_; rintro e w5 ⟨rfl, hk5⟩; have ca := keeps_cell hk5 ca; have cb := keeps_cell hk5 cb; have HK : Hid (Keeps w w5) := HK.out.call hk5 (Nat.le_refl _); go_wp2_with fail; refine wpAny_at 2 11 (.bool true) rfl (by kernel_rfl) (by kernel_rfl) (by kernel_rfl) (fun _ _ _ h => h) (by kernel_rfl) (fun w => by rfl) rfl ?_; (try simp only [List.setIfInBounds_toArray, List.set_cons_zero, List.set_cons_succ]); refine wpAny_at 3 12 (.bool true) rfl (by kernel_rfl) (by kernel_rfl) (by kernel_rfl) (fun _ _ _ h => h) (by kernel_rfl) (fun w => by rfl) rfl ?_; (try simp only [List.setIfInBounds_toArray, List.set_cons_zero, List.set_cons_succ]); refine wpAny_skip 4 rfl (by kernel_rfl) (by kernel_rfl) (by kernel_rfl) (fun _ _ _ h => h) (by kernel_rfl) (by kernel_rfl) ?_; refine wpAny_skip 5 rfl (by kernel_rfl) (by kernel_rfl) (by kernel_rfl) (fun _ _ _ h => h) (by kernel_rfl) (by kernel_rfl) ?_; refine wpAny_skip 6 rfl (by kernel_rfl) (by kernel_rfl) (by kernel_rfl) (fun _ _ _ h => h) (by kernel_rfl) (by kernel_rfl) ?_; refine wpAny_skip 7 rfl (by kernel_rfl) (by kernel_rfl) (by kernel_rfl) (fun _ _ _ h => h) (by kernel_rfl) (by kernel_rfl) ?_; refine wpAny_skip 8 rfl (by kernel_rfl) (by kernel_rfl) (by kernel_rfl) (fun _ _ _ h => h) (by kernel_rfl) (by kernel_rfl) ?_; refine wpAny_skip 9 rfl (by kernel_rfl) (by kernel_rfl) (by kernel_rfl) (fun _ _ _ h => h) (by kernel_rfl) (by kernel_rfl) ?_; refine wpAny_skip 10 rfl (by kernel_rfl) (by kernel_rfl) (by kernel_rfl) (fun _ _ _ h => h) (by kernel_rfl) (by kernel_rfl) ?_; refine wpAny_at 11 20 (.bool true) rfl (by kernel_rfl) (by kernel_rfl) (by kernel_rfl) (fun _ _ _ h => h) (by kernel_rfl) (fun w => by rfl) rfl ?_; (try simp only [List.setIfInBounds_toArray, List.set_cons_zero, List.set_cons_succ])))
    all_goals
      go_wp2
      go_ret2
      rw [e.out]
      exact GiveRow.err HK.out
  | true =>
    obtain ⟨a1, a2, a3, a4, a5⟩ := mayB_iff.1 ma
    obtain ⟨b1, o1, p1, q1, rfl, d1⟩ := row0' HA.out a1
    have MA := Lib.hid ma
    clear ha hb ma
    have i1 : (0 : Int) < (a.length : Int) := by omega
    have i3 : 0 < a.length := by omega
    obtain ⟨na, hna⟩ : ∃ na, na = (a.headD []).length := ⟨_, rfl⟩
    rw [← hna] at a3 a4 d1
    clear a5
    have HNA := Lib.hid hna
    clear hna
    by_cases hl : na = v.length
    · have e : Hid (vecM a v = ((List.range a.length).map (vecAt a v), 0)) := by show _ = _; unfold vecM; rw [MA.out, ← HNA.out, decide_eq_true hl]; rfl
      have hne : ((na : Int) != (v.length : Int)) = false := by rw [bne_eq_false_iff_eq, hl]
      have HL := Lib.hid hl
      clear hl
      have hm2 := mk_row a.length (by omega)
      go_enter Try.func28, Try.ntmps28
      go_wp2_with fail
      generalize (w.alloc (.cells #[.slice (some ⟨b1, o1, none⟩) a.length qa] 24)).alloc (.cells #[.slice pb v.length qb] 33) = w2 at *
      go_region_held3 (fun w' => w'.cell? ⟨w.heap.size, 0, none⟩ = some (.slice (some ⟨b1, o1, none⟩) a.length qa) ∧ w'.cell? ⟨w.heap.size + 1, 0, none⟩ = some (.slice pb v.length qb) ∧ w'.cell? ⟨b1, o1, none⟩ = some (.slice p1 na q1)) (exact ⟨ca, cb, d1⟩) (first | (go_at_call 30; (with_reducible refine Calls.mono (may_yes _ a _ ?_ MA.out) ?_); exact HA.out; rintro e w5 ⟨rfl, hk5⟩; have ca := keeps_cell hk5 ca; have cb := keeps_cell hk5 cb; have d1 := keeps_cell hk5 d1; have HA := Lib.hid (HA.out.keeps hk5); have HB := Lib.hid (SeqAt.keeps HB.out hk5); have HK : Hid (Keeps w w5) := HK.out.call hk5 (Nat.le_refl _)))
      all_goals
        go_wp2_with fail
        refine Calls.mono (new_any _) ?_
        rintro e w3 ⟨rfl, hk3, ht⟩
        have ca := keeps_cell hk3 ca
        have cb := keeps_cell hk3 cb
        have HA := Lib.hid (HA.out.keeps hk3)
        have HB := Lib.hid (SeqAt.keeps HB.out hk3)
        have HT := Lib.hid ht
        have HK : Hid (Keeps w w3) := HK.out.call hk3 (Nat.le_refl _)
        have l1 := cell_lt ca
        have l2 := cell_lt cb
        clear d1 ht
        go_wp2
        clear hm2
        go_loopw [27] (fun i wr => ∃ k : Nat, k ≤ a.length ∧ i = .int .i64 k ∧ Hid (Row' w3.heap.size k a.length (vecAt a v) wr.heap) ∧ Hid (Keeps w3 wr) ∧ Hid (w3.heap.size < wr.heap.size)) (fun i _ => a.length - (intOf i).toNat)
        case atStart => exact ⟨0, by omega, rfl, Row'.zero w3 a.length _, (Kept.refl _ _).alloc (Nat.le_refl _) _, by show _ < _; simp⟩
        case round =>
          obtain ⟨k, hk, rfl, hR, hkw, hsz⟩ := hrel
          obtain ⟨wo, rfl⟩ : ∃ wo : World, wo = wr := ⟨_, rfl⟩
          have ca := keeps_cell hkw.out ca
          have cb := keeps_cell hkw.out cb
          by_cases hlt : k < a.length
          · obtain ⟨fj, uj, cj⟩ := hR.out.2.1 k hlt
            rw [← cell_of] at cj
            rw [← froz_of] at fj
            have l1 := cell_lt ca
            have l2 := cell_lt cb
            have l3 := cell_lt cj
            have hk4 : Keeps wo (wo.alloc (.cells #[.int .i64 (k : Int)] 3)) := (Kept.refl _ _).alloc (Nat.le_refl _) _
            have ca := keeps_cell hk4 ca
            have cb := keeps_cell hk4 cb
            have fj := keeps_froz hk4 cj fj
            have cj := keeps_cell hk4 cj
            have hR := Lib.hid (hR.out.chg (T := fun _ => False) (Kept.any hk4) l3 (fun x => x))
            have hkw : Hid (Keeps w3 (wo.alloc (.cells #[.int .i64 (k : Int)] 3))) := hkw.out.call hk4 (Nat.le_refl _)
            have hsz : Hid (w3.heap.size < (wo.alloc (.cells #[.int .i64 (k : Int)] 3)).heap.size) := Nat.lt_of_lt_of_le hsz.out hk4.size
            have ci : (wo.alloc (.cells #[.int .i64 (k : Int)] 3)).cell? ⟨wo.heap.size, 0, none⟩ = some (.int .i64 (k : Int)) := World.cell?_alloc_new _ _ _ _
            clear hk4
            have hlt64 : (k : Int) < (a.length : Int) := by omega
            go_wp2_with fail
            generalize wo.alloc (.cells #[.int .i64 (k : Int)] 3) = w4 at *
            have HA4 := Lib.hid (HA.out.keeps hkw.out)
            have HB4 := Lib.hid (SeqAt.keeps HB.out hkw.out)
            have HT4 := Lib.hid (HT.out.keeps hkw.out)
            have hb4 : w3.heap.size < w4.heap.size := hsz.out
            have hv4 : v.length ≤ 4096 := by have := HL.out; omega
            go_region_with (first | (go_at_call 61; refine Calls.mono (sum_any _ v.length 63 _ (fun j => LA.at_ a k j) (fun j => v.getD j 0) _ ?_ ?_ enters_veccl (fun wx hx j hj => veccl_any _ _ a v k j _ _ _ wx (MatAt.keeps (w := w4) HA4.out hx) (SeqAt.keeps (w := w4) HB4.out hx) hlt (by rw [may_row MA.out hlt, ← HNA.out, HL.out]; exact hj) hj (keeps_cell (w := w4) hx ca) (keeps_cell (w := w4) hx ci) (keeps_cell (w := w4) hx cb))) ?_; omega; exact HT4.out; rintro e w6 ⟨rfl, hk6⟩; have hk6 : Keeps w4 w6 := hk6; have ci := keeps_cell hk6 ci; have cb := keeps_cell hk6 cb; have fj := keeps_froz hk6 cj fj; have cj := keeps_cell hk6 cj))
            all_goals
              go_wp2
              exact ⟨⟨k + 1, by omega, rfl, (hR.out.chg (T := fun _ => False) (Kept.any hk6) hb4 (fun x => x)).next hlt, (hkw.out.call hk6 (Nat.le_refl _)).setCell (Nat.le_refl _) _, by show _ < _; have := hk6.size; simp; omega⟩, by simp [intOf]; omega⟩
          · obtain rfl : k = a.length := by omega
            go_wp2
            go_ret2
            rw [e.out]
            exact ⟨_, rfl, hR.out.row (by omega) _ HK.out.size, HK.out.call hkw.out (Nat.le_refl _)⟩
    · have e : Hid (vecM a v = ([], 4)) := by show _ = _; unfold vecM; rw [MA.out, ← HNA.out, decide_eq_false hl]; rfl
      have hne : ((na : Int) != (v.length : Int)) = true := by rw [bne_iff_ne]; omega
      clear hl
      go_enter Try.func28, Try.ntmps28
      go_wp2_with fail
      generalize (w.alloc (.cells #[.slice (some ⟨b1, o1, none⟩) a.length qa] 24)).alloc (.cells #[.slice pb v.length qb] 33) = w2 at *
      go_region_held3 (fun w' => w'.cell? ⟨w.heap.size, 0, none⟩ = some (.slice (some ⟨b1, o1, none⟩) a.length qa) ∧ w'.cell? ⟨w.heap.size + 1, 0, none⟩ = some (.slice pb v.length qb) ∧ w'.cell? ⟨b1, o1, none⟩ = some (.slice p1 na q1)) (exact ⟨ca, cb, d1⟩) (first | (go_at_call 30; (with_reducible refine Calls.mono (may_yes _ a _ ?_ MA.out) ?_); exact HA.out; rintro e w5 ⟨rfl, hk5⟩; have ca := keeps_cell hk5 ca; have cb := keeps_cell hk5 cb; have d1 := keeps_cell hk5 d1; have HA := Lib.hid (HA.out.keeps hk5); have HB := Lib.hid (SeqAt.keeps HB.out hk5); have HK : Hid (Keeps w w5) := HK.out.call hk5 (Nat.le_refl _)))
      all_goals
        go_wp2
        go_ret2
        rw [e.out]
        exact GiveRow.err HK.out
end Go.Proofs.Ytojdodbedemkoaa
