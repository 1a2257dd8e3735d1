/- The walks of matrix.MayCode, one, Of. -/
import Derived.Test.YtllfhaocdknejaaDoorMade5
namespace Go.Proofs.YtllfhaocdknejaaDoor
open Go.RowKit

theorem codeB_true {k n : Int} : codeB k n = true ↔ 1 ≤ k ∧ k ≤ n ∧ n ≤ 12 := by unfold codeB; simp
theorem codeB_false {k n : Int} : codeB k n = false ↔ ¬ (1 ≤ k ∧ k ≤ n ∧ n ≤ 12) := by unfold codeB; simp

set_option maxHeartbeats 1000000 in
theorem maycode_any (k n : Int) (w : World) :
    Calls Tryd.prog 23 #[.agg #[.int .i64 k, .int .i64 n]] w fun e w' => e = .returned (.bool (codeB k n)) ∧ Keeps w w' := by
  cases hb : codeB k n with
  | true =>
    obtain ⟨h1, h2, h3⟩ := codeB_true.1 hb
    go_enter Tryd.func23, Tryd.ntmps23
    go_wp2
    go_ret
    exact ⟨rfl, (Kept.refl _ _).alloc (Nat.le_refl _) _⟩
  | false =>
    have h := codeB_false.1 hb
    by_cases h1 : 1 ≤ k
    · by_cases h2 : k ≤ n
      · have h3 : ¬ n ≤ 12 := by omega
        clear h hb
        go_enter Tryd.func23, Tryd.ntmps23
        go_wp2
        go_ret
        exact ⟨rfl, (Kept.refl _ _).alloc (Nat.le_refl _) _⟩
      · clear h hb
        go_enter Tryd.func23, Tryd.ntmps23
        go_wp2
        go_ret
        exact ⟨rfl, (Kept.refl _ _).alloc (Nat.le_refl _) _⟩
    · clear h hb
      go_enter Tryd.func23, Tryd.ntmps23
      go_wp2
      go_ret
      exact ⟨rfl, (Kept.refl _ _).alloc (Nat.le_refl _) _⟩

set_option maxHeartbeats 1000000 in
theorem one_any (i j : Nat) (w : World) :
    Calls Tryd.prog 45 #[.int .i64 (i : Int), .int .i64 (j : Int)] w fun e w' => e = .returned (.int .u8 ((oneAt i j).toNat : Int)) ∧ w = w' := by
  by_cases h : i = j
  · subst h
    go_enter Tryd.func45, Tryd.ntmps45
    go_wp2
    go_ret
    exact ⟨by unfold oneAt; rw [if_pos rfl]; rfl, rfl⟩
  · have h' : (((i : Nat) : Int) == ((j : Nat) : Int)) = false := by rw [beq_eq_false_iff_ne]; omega
    go_enter Tryd.func45, Tryd.ntmps45
    go_wp2
    go_ret
    exact ⟨by unfold oneAt; rw [if_neg h]; rfl, rfl⟩

theorem enters_one (xs : Array Value) (w : World) : (callFunc 45 xs).run Tryd.prog w = .ok (.enter 45 xs) w := enters_body Tryd.func45 (by kernel_rfl) rfl xs w

theorem codeAt_inv {k i j : Nat} (h : ¬ i < k) (hi : i < 16) (hj : j < 16) : ((codeAt k i j).toNat : Int) = ((FM.inv (i ^^^ j) : Nat) : Int) := by
  have hx : i ^^^ j < 16 := Nat.xor_lt_two_pow (n := 4) hi hj
  unfold codeAt; rw [if_neg h, LA.inv_toNat, UInt8.toNat_ofNat', Nat.mod_eq_of_lt (by omega)]

set_option maxHeartbeats 1000000 in
theorem ofcl_any (i j k bc bf b : Nat) (w : World) (hi : i < 16) (hj : j < 16)
    (hc : w.cell? ⟨bc, 0, none⟩ = some (.int .i64 (k : Int))) (hf : w.cell? ⟨bf, 0, none⟩ = some (.pointer (some ⟨b, 0, none⟩))) (ht : Tab w.heap b) :
    Calls Tryd.prog 44 #[.int .i64 (i : Int), .int .i64 (j : Int), .pointer (some ⟨bc, 0, none⟩), .pointer (some ⟨bf, 0, none⟩)] w fun e w' => e = .returned (.int .u8 ((codeAt k i j).toNat : Int)) ∧ Keeps w w' := by
  by_cases h : i < k
  · go_enter Tryd.func44, Tryd.ntmps44
    go_wp2_with (go_at_call 45; refine Calls.mono (one_any _ _ _) ?_; rintro e w' ⟨rfl, rfl⟩)
    go_ret
    exact ⟨by unfold codeAt; rw [if_pos h]; rfl, keeps_refl _⟩
  · have hx : i ^^^ j < 16 := Nat.xor_lt_two_pow (n := 4) hi hj
    have hb := xor_i64 i j (by omega) (by omega)
    have he := codeAt_inv h hi hj
    have HE := Lib.hid he
    clear he
    go_enter Tryd.func44, Tryd.ntmps44
    go_wp2_with (go_at_call 46; refine Calls.mono (inv_tab _ _ _ ht ?_) ?_; omega; rintro e w' ⟨rfl, n, rfl⟩)
    go_ret
    exact ⟨by rw [HE.out]; rfl, keeps_refl _⟩

theorem enters_ofcl (xs : Array Value) (w : World) : (callFunc 44 xs).run Tryd.prog w = .ok (.enter 44 xs) w := enters_body Tryd.func44 (by kernel_rfl) rfl xs w

set_option maxHeartbeats 1000000 in
theorem matof_any (k n : Int) (w : World) : Calls Tryd.prog 35 #[.agg #[.int .i64 k, .int .i64 n]] w (GiveMat w (ofM k n)) := by
  have hmf : ∀ (fn : Fn) (first cap : Array Value) (w : World), (Instr.makeFunc fn first cap).run Tryd.prog w = .ok (.func fn first cap) w := fun _ _ _ _ => rfl
  cases hb : codeB k n with
  | true =>
    have h := codeB_true.1 hb
    have e : ofM k n = (matOf n.toNat k.toNat (codeAt k.toNat), 0) := by unfold ofM; rw [hb]; rfl
    rw [e]
    clear e
    have HB := Lib.hid hb
    clear hb
    obtain ⟨K, rfl⟩ := Int.eq_ofNat_of_zero_le (show 0 ≤ k by omega)
    obtain ⟨N, rfl⟩ := Int.eq_ofNat_of_zero_le (show 0 ≤ n by omega)
    obtain ⟨h1, h2, h3⟩ := h
    go_enter Tryd.func35, Tryd.ntmps35
    go_wp2_with fail
    refine Calls.mono (maycode_any _ _ _) ?_
    rintro e w1 ⟨rfl, hk1⟩
    rw [HB.out]
    have c0 : w1.cell? ⟨w.heap.size, 0, none⟩ = some (.int .i64 (K : Int)) := keeps_cell hk1 (World.cell?_alloc_new _ _ _ _)
    have c1 : w1.cell? ⟨w.heap.size, 1, none⟩ = some (.int .i64 (N : Int)) := keeps_cell hk1 (World.cell?_alloc_new _ _ _ _)
    go_wp2_with fail
    refine Calls.mono (new_any _) ?_
    rintro e w2 ⟨rfl, hk2, ht⟩
    have c0 := keeps_cell hk2 c0
    have c1 := keeps_cell hk2 c1
    have hlt1 := cell_lt c0
    have hlt2 := ht.lt
    go_wp2_with fail
    have hk3 : Keeps w2 (w2.alloc (.cells #[.pointer (some ⟨w1.heap.size, 0, none⟩)] 83)) := (Kept.refl _ _).alloc (Nat.le_refl _) _
    have c03 := keeps_cell hk3 c0
    have ht3 := Tab.keeps ht hk3
    have cf : (w2.alloc (.cells #[.pointer (some ⟨w1.heap.size, 0, none⟩)] 83)).cell? ⟨w2.heap.size, 0, none⟩ = some (.pointer (some ⟨w1.heap.size, 0, none⟩)) := World.cell?_alloc_new _ _ _ _
    have hka : Keeps w (w2.alloc (.cells #[.pointer (some ⟨w1.heap.size, 0, none⟩)] 83)) := ((((Kept.refl _ w).alloc (Nat.le_refl _) _).call hk1 (Nat.le_refl _)).call hk2 (Nat.le_refl _)).call hk3 (Nat.le_refl _)
    refine Calls.mono (made_any N K 44 #[.pointer (some ⟨w.heap.size, 0, none⟩), .pointer (some ⟨w2.heap.size, 0, none⟩)] (codeAt K) _ (by omega) (by omega) enters_ofcl (fun wx hkx i j hi hj => ofcl_any i j K w.heap.size w2.heap.size w1.heap.size wx (by omega) (by omega) (keeps_cell hkx c03) (keeps_cell hkx cf) (ht3.keeps hkx))) ?_
    rintro e w4 ⟨v, rfl, hm, hk4⟩
    go_wp2
    go_ret2
    exact ⟨_, rfl, hm.mono fun b hb => Nat.le_trans hka.size hb, hka.call hk4 (Nat.le_refl _)⟩
  | false =>
    have e : ofM k n = ([], 1) := by unfold ofM; rw [hb]; rfl
    rw [e]
    clear e
    have HB := Lib.hid hb
    clear hb
    go_enter Tryd.func35, Tryd.ntmps35
    go_wp2_with fail
    refine Calls.mono (maycode_any _ _ _) ?_
    rintro e w1 ⟨rfl, hk1⟩
    rw [HB.out]
    go_wp2
    go_ret2
    exact GiveMat.err (((Kept.refl _ _).alloc (Nat.le_refl _) _).call hk1 (Nat.le_refl _))
end Go.Proofs.YtllfhaocdknejaaDoor
