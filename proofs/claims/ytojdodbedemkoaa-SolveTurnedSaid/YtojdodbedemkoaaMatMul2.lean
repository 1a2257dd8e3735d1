/- The walks of matrix.Mul, Vec. -/
import Derived.Test.YtojdodbedemkoaaMatMul
import Derived.Test.YtojdodbedemkoaaRegion
import Derived.Deep.RegionHeld3
namespace Go.Proofs.Ytojdodbedemkoaa
open Go.RowKit

theorem may_yes (va : Value) (m : List (List UInt8)) (w : World) (hm : MatAt w.heap va m) (h : mayB 12 m = true) : Calls Try.prog 30 #[va] w fun e w' => e = .returned (.bool true) ∧ Keeps w w' := by
  have := may_any va m w hm; rw [h] at this; exact this
theorem may_no (va : Value) (m : List (List UInt8)) (w : World) (hm : MatAt w.heap va m) (h : mayB 12 m = false) : Calls Try.prog 30 #[va] w fun e w' => e = .returned (.bool false) ∧ Keeps w w' := by
  have := may_any va m w hm; rw [h] at this; exact this

theorem box2 (w : World) (va vb : Value) (ta tb : TypeId) : Keeps w ((w.alloc (.cells #[va] ta)).alloc (.cells #[vb] tb)) ∧ ((w.alloc (.cells #[va] ta)).alloc (.cells #[vb] tb)).cell? ⟨w.heap.size, 0, none⟩ = some va ∧ ((w.alloc (.cells #[va] ta)).alloc (.cells #[vb] tb)).cell? ⟨w.heap.size + 1, 0, none⟩ = some vb := by
  refine ⟨((Kept.refl _ _).alloc (Nat.le_refl _) _).alloc (Nat.le_refl _) _, ?_, ?_⟩
  · rw [World.cell?_alloc_past _ _ _ (by simp)]; exact World.cell?_alloc_new _ _ _ _
  · have := World.cell?_alloc_new (w.alloc (.cells #[va] ta)) #[vb] tb 0
    rw [World.size_alloc] at this; exact this

theorem seq_shape {α : Type} {R : Value → α → Prop} {h : Array Obj} {v : Value} {l : List α} (s : SeqAt R h v l) : ∃ p q, v = .slice p l.length q := let ⟨a, c, e, _⟩ := s; ⟨a, c, e⟩
theorem row0' {w : World} {p : Option Addr} {q : Nat} {m : List (List UInt8)} (h : MatAt w.heap (.slice p m.length q) m) (h1 : 1 ≤ m.length) : ∃ b off a ca, p = some ⟨b, off, none⟩ ∧ w.cell? ⟨b, off, none⟩ = some (.slice a (m.headD []).length ca) := by
  obtain ⟨b, off, c, a, ca, e, h⟩ := row0 h h1
  injection e with e1 e2 e3
  exact ⟨b, off, a, ca, e1, h⟩

set_option maxRecDepth 100000 in
set_option maxHeartbeats 4000000 in
theorem matmul_any (va vb : Value) (a b : List (List UInt8)) (w : World) (ha : MatAt w.heap va a) (hb : MatAt w.heap vb b) :
    Calls Try.prog 27 #[va, vb] w (GiveMat w (mulM a b)) := by
  have hmf : ∀ (fn : Fn) (first cap : Array Value) (w : World), (Instr.makeFunc fn first cap).run Try.prog w = .ok (.func fn first cap) w := fun _ _ _ _ => rfl
  obtain ⟨pa, qa, rfl⟩ := seq_shape ha
  obtain ⟨pb, qb, rfl⟩ := seq_shape hb
  obtain ⟨hk0, ca, cb⟩ := box2 w (.slice pa a.length qa) (.slice pb b.length qb) 24 24
  have HK := Lib.hid hk0
  have HA := Lib.hid (ha.keeps hk0)
  have HB := Lib.hid (hb.keeps hk0)
  clear hk0
  cases ma : mayB 12 a with
  | false =>
    have e : Hid (mulM a b = ([], 4)) := by show _ = _; unfold mulM; rw [ma]; rfl
    have MA := Lib.hid ma
    clear ha hb ma
    go_enter Try.func27, Try.ntmps27
    go_wp2_with fail
    generalize (w.alloc (.cells #[.slice pa a.length qa] 24)).alloc (.cells #[.slice pb b.length qb] 24) = w2 at *
    go_region_with (first | (go_at_call 30; refine Calls.mono (may_no _ a _ HA.out MA.out) ?_; rintro e w5 ⟨rfl, hk5⟩; have ca := keeps_cell hk5 ca; have cb := keeps_cell hk5 cb; have HA := Lib.hid (HA.out.keeps hk5); have HB := Lib.hid (HB.out.keeps hk5); have HK : Hid (Keeps w w5) := HK.out.call hk5 (Nat.le_refl _); go_wp2_with fail; refine wpAny_at 2 9 (.bool true) rfl (by kernel_rfl) (by kernel_rfl) (by kernel_rfl) (fun _ _ _ h => h) (by kernel_rfl) (fun w => by rfl) rfl ?_; (try simp only [List.setIfInBounds_toArray, List.set_cons_zero, List.set_cons_succ]); refine wpAny_at 3 10 (.bool true) rfl (by kernel_rfl) (by kernel_rfl) (by kernel_rfl) (fun _ _ _ h => h) (by kernel_rfl) (fun w => by rfl) rfl ?_; (try simp only [List.setIfInBounds_toArray, List.set_cons_zero, List.set_cons_succ]); refine wpAny_skip 4 rfl (by kernel_rfl) (by kernel_rfl) (by kernel_rfl) (fun _ _ _ h => h) (by kernel_rfl) (by kernel_rfl) ?_; refine wpAny_skip 5 rfl (by kernel_rfl) (by kernel_rfl) (by kernel_rfl) (fun _ _ _ h => h) (by kernel_rfl) (by kernel_rfl) ?_; refine wpAny_skip 6 rfl (by kernel_rfl) (by kernel_rfl) (by kernel_rfl) (fun _ _ _ h => h) (by kernel_rfl) (by kernel_rfl) ?_; refine wpAny_at 7 14 (.bool true) rfl (by kernel_rfl) (by kernel_rfl) (by kernel_rfl) (fun _ _ _ h => h) (by kernel_rfl) (fun w => by rfl) rfl ?_; (try simp only [List.setIfInBounds_toArray, List.set_cons_zero, List.set_cons_succ]); refine wpAny_at 8 15 (.bool true) rfl (by kernel_rfl) (by kernel_rfl) (by kernel_rfl) (fun _ _ _ h => h) (by kernel_rfl) (fun w => by rfl) rfl ?_; (try simp only [List.setIfInBounds_toArray, List.set_cons_zero, List.set_cons_succ]); refine wpAny_skip 9 rfl (by kernel_rfl) (by kernel_rfl) (by kernel_rfl) (fun _ _ _ h => h) (by kernel_rfl) (by kernel_rfl) ?_; refine wpAny_skip 10 rfl (by kernel_rfl) (by kernel_rfl) (by kernel_rfl) (fun _ _ _ h => h) (by kernel_rfl) (by kernel_rfl) ?_; refine wpAny_skip 11 rfl (by kernel_rfl) (by kernel_rfl) (by kernel_rfl) (fun _ _ _ h => h) (by kernel_rfl) (by kernel_rfl) ?_; refine wpAny_skip 12 rfl (by kernel_rfl) (by kernel_rfl) (by kernel_rfl) (fun _ _ _ h => h) (by kernel_rfl) (by kernel_rfl) ?_; refine wpAny_skip 13 rfl (by kernel_rfl) (by kernel_rfl) (by kernel_rfl) (fun _ _ _ h => h) (by kernel_rfl) (by kernel_rfl) ?_; refine wpAny_skip 14 rfl (by kernel_rfl) (by kernel_rfl) (by kernel_rfl) (fun _ _ _ h => h) (by kernel_rfl) (by kernel_rfl) ?_; refine wpAny_skip 15 rfl (by kernel_rfl) (by kernel_rfl) (by kernel_rfl) (fun _ _ _ h => h) (by kernel_rfl) (by kernel_rfl) ?_; refine wpAny_at 16 23 (.bool true) rfl (by kernel_rfl) (by kernel_rfl) (by kernel_rfl) (fun _ _ _ h => h) (by kernel_rfl) (fun w => by rfl) rfl ?_; (try simp only [List.setIfInBounds_toArray, List.set_cons_zero, List.set_cons_succ])))
    all_goals
      go_wp2
      go_ret2
      rw [e.out]
      exact GiveMat.err HK.out
  | true =>
    obtain ⟨a1, a2, a3, a4, a5⟩ := mayB_iff.1 ma
    obtain ⟨b1, o1, p1, q1, rfl, d1⟩ := row0' HA.out a1
    cases mb : mayB 12 b with
    | false =>
      have e : Hid (mulM a b = ([], 4)) := by show _ = _; unfold mulM; rw [ma, mb]; rfl
      have MA := Lib.hid ma
      have MB := Lib.hid mb
      clear ha hb ma mb a1 a2 a3 a4 a5 d1
      go_enter Try.func27, Try.ntmps27
      go_wp2_with fail
      generalize (w.alloc (.cells #[.slice (some ⟨b1, o1, none⟩) a.length qa] 24)).alloc (.cells #[.slice pb b.length qb] 24) = w2 at *
      go_region_with (first | (go_at_call 30; (with_reducible refine Calls.mono (may_yes _ a _ ?_ MA.out) ?_); exact HA.out; rintro e w5 ⟨rfl, hk5⟩; have ca := keeps_cell hk5 ca; have cb := keeps_cell hk5 cb; have HA := Lib.hid (HA.out.keeps hk5); have HB := Lib.hid (HB.out.keeps hk5); have HK : Hid (Keeps w w5) := HK.out.call hk5 (Nat.le_refl _)) | (go_at_call 30; (with_reducible refine Calls.mono (may_no _ b _ ?_ MB.out) ?_); exact HB.out; rintro e w5 ⟨rfl, hk5⟩; have ca := keeps_cell hk5 ca; have cb := keeps_cell hk5 cb; have HA := Lib.hid (HA.out.keeps hk5); have HB := Lib.hid (HB.out.keeps hk5); have HK : Hid (Keeps w w5) := HK.out.call hk5 (Nat.le_refl _); go_wp2_with fail; refine wpAny_at 6 13 (.bool true) rfl (by kernel_rfl) (by kernel_rfl) (by kernel_rfl) (fun _ _ _ h => h) (by kernel_rfl) (fun w => by rfl) rfl ?_; (try simp only [List.setIfInBounds_toArray, List.set_cons_zero, List.set_cons_succ]); refine wpAny_at 7 14 (.bool true) rfl (by kernel_rfl) (by kernel_rfl) (by kernel_rfl) (fun _ _ _ h => h) (by kernel_rfl) (fun w => by rfl) rfl ?_; (try simp only [List.setIfInBounds_toArray, List.set_cons_zero, List.set_cons_succ]); refine wpAny_at 8 15 (.bool true) rfl (by kernel_rfl) (by kernel_rfl) (by kernel_rfl) (fun _ _ _ h => h) (by kernel_rfl) (fun w => by rfl) rfl ?_; (try simp only [List.setIfInBounds_toArray, List.set_cons_zero, List.set_cons_succ]); refine wpAny_skip 9 rfl (by kernel_rfl) (by kernel_rfl) (by kernel_rfl) (fun _ _ _ h => h) (by kernel_rfl) (by kernel_rfl) ?_; refine wpAny_skip 10 rfl (by kernel_rfl) (by kernel_rfl) (by kernel_rfl) (fun _ _ _ h => h) (by kernel_rfl) (by kernel_rfl) ?_; refine wpAny_skip 11 rfl (by kernel_rfl) (by kernel_rfl) (by kernel_rfl) (fun _ _ _ h => h) (by kernel_rfl) (by kernel_rfl) ?_; refine wpAny_skip 12 rfl (by kernel_rfl) (by kernel_rfl) (by kernel_rfl) (fun _ _ _ h => h) (by kernel_rfl) (by kernel_rfl) ?_; refine wpAny_skip 13 rfl (by kernel_rfl) (by kernel_rfl) (by kernel_rfl) (fun _ _ _ h => h) (by kernel_rfl) (by kernel_rfl) ?_; refine wpAny_skip 14 rfl (by kernel_rfl) (by kernel_rfl) (by kernel_rfl) (fun _ _ _ h => h) (by kernel_rfl) (by kernel_rfl) ?_; refine wpAny_skip 15 rfl (by kernel_rfl) (by kernel_rfl) (by kernel_rfl) (fun _ _ _ h => h) (by kernel_rfl) (by kernel_rfl) ?_; refine wpAny_at 16 23 (.bool true) rfl (by kernel_rfl) (by kernel_rfl) (by kernel_rfl) (fun _ _ _ h => h) (by kernel_rfl) (fun w => by rfl) rfl ?_; (try simp only [List.setIfInBounds_toArray, List.set_cons_zero, List.set_cons_succ])))
      all_goals
        go_wp2
        go_ret2
        rw [e.out]
        exact GiveMat.err HK.out
    | true =>
      obtain ⟨b1', b2', b3, b4, b5⟩ := mayB_iff.1 mb
      obtain ⟨b2, o2, p2, q2, rfl, d2⟩ := row0' HB.out b1'
      have MA := Lib.hid ma
      have MB := Lib.hid mb
      clear ha hb ma mb
      have i1 : (0 : Int) < (a.length : Int) := by omega
      have i2 : (0 : Int) < (b.length : Int) := by omega
      have i3 : 0 < a.length := by omega
      have i4 : 0 < b.length := by omega
      obtain ⟨na, hna⟩ : ∃ na, na = (a.headD []).length := ⟨_, rfl⟩
      obtain ⟨nb, hnb⟩ : ∃ nb, nb = (b.headD []).length := ⟨_, rfl⟩
      rw [← hna] at a3 a4 d1
      rw [← hnb] at b3 b4 d2
      clear a5 b5
      have HNA := Lib.hid hna
      have HNB := Lib.hid hnb
      clear hna hnb
      by_cases hl : na = b.length
      · have e : Hid (mulM a b = (matOf a.length nb (prodAt a b), 0)) := by show _ = _; unfold mulM; rw [MA.out, MB.out, ← HNA.out, ← HNB.out, decide_eq_true hl]; rfl
        have hne : ((na : Int) != (b.length : Int)) = false := by rw [bne_eq_false_iff_eq, hl]
        have HL := Lib.hid hl
        clear hl
        go_enter Try.func27, Try.ntmps27
        go_wp2_with fail
        generalize (w.alloc (.cells #[.slice (some ⟨b1, o1, none⟩) a.length qa] 24)).alloc (.cells #[.slice (some ⟨b2, o2, none⟩) b.length qb] 24) = w2 at *
        go_region_held3 (fun w' => w'.cell? ⟨w.heap.size, 0, none⟩ = some (.slice (some ⟨b1, o1, none⟩) a.length qa) ∧ w'.cell? ⟨w.heap.size + 1, 0, none⟩ = some (.slice (some ⟨b2, o2, none⟩) b.length qb) ∧ w'.cell? ⟨b1, o1, none⟩ = some (.slice p1 na q1)) (exact ⟨ca, cb, d1⟩) (first | (go_at_call 30; (with_reducible refine Calls.mono (may_yes _ a _ ?_ MA.out) ?_); exact HA.out; rintro e w5 ⟨rfl, hk5⟩; have ca := keeps_cell hk5 ca; have cb := keeps_cell hk5 cb; have HA := Lib.hid (HA.out.keeps hk5); have HB := Lib.hid (HB.out.keeps hk5); have HK : Hid (Keeps w w5) := HK.out.call hk5 (Nat.le_refl _); have d1 := keeps_cell hk5 d1; have d2 := keeps_cell hk5 d2) | (go_at_call 30; (with_reducible refine Calls.mono (may_yes _ b _ ?_ MB.out) ?_); exact HB.out; rintro e w5 ⟨rfl, hk5⟩; have ca := keeps_cell hk5 ca; have cb := keeps_cell hk5 cb; have HA := Lib.hid (HA.out.keeps hk5); have HB := Lib.hid (HB.out.keeps hk5); have HK : Hid (Keeps w w5) := HK.out.call hk5 (Nat.le_refl _); have d1 := keeps_cell hk5 d1; have d2 := keeps_cell hk5 d2))
        all_goals
          go_wp2_with fail
          refine Calls.mono (new_any _) ?_
          rintro e w3 ⟨rfl, hk3, ht⟩
          have ca := keeps_cell hk3 ca
          have cb := keeps_cell hk3 cb
          have d2 := keeps_cell hk3 d2
          have HA := Lib.hid (HA.out.keeps hk3)
          have HB := Lib.hid (HB.out.keeps hk3)
          have HK : Hid (Keeps w w3) := HK.out.call hk3 (Nat.le_refl _)
          have l1 := cell_lt ca
          have l2 := cell_lt cb
          have l3 := cell_lt d2
          have hk4 : Keeps w3 (w3.alloc (.cells #[.pointer (some ⟨w5.heap.size, 0, none⟩)] 42)) := (Kept.refl _ _).alloc (Nat.le_refl _) _
          have ca := keeps_cell hk4 ca
          have cb := keeps_cell hk4 cb
          have d2 := keeps_cell hk4 d2
          have HA := Lib.hid (HA.out.keeps hk4)
          have HB := Lib.hid (HB.out.keeps hk4)
          have HT := Lib.hid (Tab.keeps ht hk4)
          have HK : Hid (Keeps w (w3.alloc (.cells #[.pointer (some ⟨w5.heap.size, 0, none⟩)] 42))) := HK.out.call hk4 (Nat.le_refl _)
          have cf : (w3.alloc (.cells #[.pointer (some ⟨w5.heap.size, 0, none⟩)] 42)).cell? ⟨w3.heap.size, 0, none⟩ = some (.pointer (some ⟨w5.heap.size, 0, none⟩)) := World.cell?_alloc_new _ _ _ _
          clear ht hk4
          go_wp2_with fail
          generalize w3.alloc (.cells #[.pointer (some ⟨w5.heap.size, 0, none⟩)] 42) = w4 at *
          go_region_held3 (fun w' => w'.cell? ⟨w.heap.size, 0, none⟩ = some (.slice (some ⟨b1, o1, none⟩) a.length qa) ∧ w'.cell? ⟨w.heap.size + 1, 0, none⟩ = some (.slice (some ⟨b2, o2, none⟩) b.length qb) ∧ w'.cell? ⟨b2, o2, none⟩ = some (.slice p2 nb q2)) (exact ⟨ca, cb, d2⟩) (first | (go_at_call 55; refine Calls.mono (made_any a.length nb 60 _ (prodAt a b) _ ?_ ?_ enters_mulcl (fun wx hx i j hi hj => mulcl_any _ _ a b i j _ _ _ _ wx (MatAt.keeps (w := w4) HA.out hx) (MatAt.keeps (w := w4) HB.out hx) MA.out MB.out (HNA.out ▸ HL.out) hi (HNB.out ▸ hj) (Tab.keeps (w := w4) HT.out hx) (keeps_cell (w := w4) hx cf) (keeps_cell (w := w4) hx cb) (keeps_cell (w := w4) hx ca))) ?_; omega; omega; rintro e w6 ⟨v6, rfl, hm6, hk6⟩; have ca := keeps_cell hk6 ca; have cb := keeps_cell hk6 cb; have d2 := keeps_cell hk6 d2))
          all_goals
            go_wp2
            go_ret2
            rw [e.out]
            exact ⟨_, rfl, MatIn.mono hm6 fun b hb => Nat.le_trans HK.out.size hb, HK.out.call hk6 (Nat.le_refl _)⟩
      · have e : Hid (mulM a b = ([], 4)) := by show _ = _; unfold mulM; rw [MA.out, MB.out, ← HNA.out, decide_eq_false hl]; rfl
        have hne : ((na : Int) != (b.length : Int)) = true := by rw [bne_iff_ne]; omega
        clear hl
        go_enter Try.func27, Try.ntmps27
        go_wp2_with fail
        generalize (w.alloc (.cells #[.slice (some ⟨b1, o1, none⟩) a.length qa] 24)).alloc (.cells #[.slice (some ⟨b2, o2, none⟩) b.length qb] 24) = w2 at *
        go_region_held3 (fun w' => w'.cell? ⟨w.heap.size, 0, none⟩ = some (.slice (some ⟨b1, o1, none⟩) a.length qa) ∧ w'.cell? ⟨w.heap.size + 1, 0, none⟩ = some (.slice (some ⟨b2, o2, none⟩) b.length qb) ∧ w'.cell? ⟨b1, o1, none⟩ = some (.slice p1 na q1)) (exact ⟨ca, cb, d1⟩) (first | (go_at_call 30; (with_reducible refine Calls.mono (may_yes _ a _ ?_ MA.out) ?_); exact HA.out; rintro e w5 ⟨rfl, hk5⟩; have ca := keeps_cell hk5 ca; have cb := keeps_cell hk5 cb; have HA := Lib.hid (HA.out.keeps hk5); have HB := Lib.hid (HB.out.keeps hk5); have HK : Hid (Keeps w w5) := HK.out.call hk5 (Nat.le_refl _); have d1 := keeps_cell hk5 d1; have d2 := keeps_cell hk5 d2) | (go_at_call 30; (with_reducible refine Calls.mono (may_yes _ b _ ?_ MB.out) ?_); exact HB.out; rintro e w5 ⟨rfl, hk5⟩; have ca := keeps_cell hk5 ca; have cb := keeps_cell hk5 cb; have HA := Lib.hid (HA.out.keeps hk5); have HB := Lib.hid (HB.out.keeps hk5); have HK : Hid (Keeps w w5) := HK.out.call hk5 (Nat.le_refl _); have d1 := keeps_cell hk5 d1; have d2 := keeps_cell hk5 d2))
        all_goals
          go_wp2
          go_ret2
          rw [e.out]
          exact GiveMat.err HK.out
end Go.Proofs.Ytojdodbedemkoaa
