/- The walks of the laws FieldTells, FieldNames, FieldAll. -/
import Derived.Test.YtfjbimceehkndaaFieldLaw
import Derived.Test.YtfjbimceehkndaaRef02
namespace Go.Proofs.Ytfjbimceehkndaa
open Go.RowKit

set_option maxRecDepth 100000 in
set_option maxHeartbeats 2000000 in
theorem tells_any (x y n : Int) (hx : 0 ≤ x ∧ x < 256) (hy : 0 ≤ y ∧ y < 256) (w : World) :
    Calls Try.prog 3 #[.int .u8 x, .int .u8 y, .int .i64 n] w fun e w' => e = .returned (.bool true) ∧ Keeps w w' := by
  obtain ⟨a, rfl⟩ := Int.eq_ofNat_of_zero_le hx.1
  obtain ⟨b, rfl⟩ := Int.eq_ofNat_of_zero_le hy.1
  have e1 := xor_u8 a b (by omega) (by omega)
  go_enter Try.func3, Try.ntmps3
  go_wp2_with (first | (go_at_call 9; refine (new_any _).mono ?_; rintro e w1 ⟨rfl, hk, ht⟩) | (go_at_call 10; refine Calls.mono (inv_tab _ _ _ ht ?_) ?_; omega; rintro e w' ⟨rfl, n, rfl⟩) | (go_at_call 12; refine Calls.mono (log_tab _ _ _ ht ?_) ?_; omega; rintro e w' ⟨rfl, n, rfl⟩) | (go_at_call 15; refine Calls.mono (mul_tab _ _ _ _ ht ?_ ?_) ?_; omega; omega; rintro e w' ⟨rfl, n, rfl⟩) | (go_at_call 17; refine Calls.mono (exp_tab _ _ _ ht) ?_; rintro e w' ⟨rfl, rfl⟩) | (go_at_call 14; refine Calls.mono (add_any _ _ _ _ ?_ ?_) ?_; omega; omega; rintro e w' ⟨rfl, rfl⟩) | (go_at_call 19; refine (awake_any _).mono ?_; rintro e w2 ⟨rfl, hk2⟩; have ht := ht.keeps hk2; have hk := Keeps.trans hk hk2) | (go_at_call 16; refine Calls.mono (refmul_any _ _ _ ?_ ?_) ?_; omega; omega; rintro e w' ⟨rfl, rfl⟩) | (go_at_call 11; refine Calls.mono (refinv_any _ _ ?_) ?_; omega; rintro e w' ⟨rfl, rfl⟩) | (go_at_call 18; refine Calls.mono (refexp_any _ _) ?_; rintro e w' ⟨rfl, rfl⟩) | (go_at_call 13; refine Calls.mono (reflog_any _ _ ?_) ?_; omega; rintro e w' ⟨rfl, rfl⟩))
  go_ret
  exact ⟨rfl, hk⟩

def az : Array Value := twoRep 256 0 (.int .i64 0) (.int .i64 0)
theorem run_az (w : World) : (zeroValue 34).run Try.prog w = .ok (.agg az) w := by kernel_rfl

/-- How often each number was met among the first k powers. -/
def Cnt (h : Array Obj) (b k : Nat) : Prop := ∀ v, v < 256 → cellH h b v = some (.int .i64 (if 0 < v ∧ FM.lg v < k then 1 else 0)) ∧ frozH h b v = false
theorem Cnt.zero (w : World) : Cnt (w.alloc (.cells az 34)).heap w.heap.size 0 := by
  intro v hv
  have hc : cellH (w.alloc (.cells az 34)).heap w.heap.size v = az[v]? := by
    rw [← cell_of]; exact World.cell?_alloc_new w az _ v
  refine ⟨?_, ?_⟩
  · rw [hc, if_neg (by omega)]
    have := twoRep_at 256 0 (.int .i64 0) (.int .i64 0) v (by omega)
    rw [if_pos hv] at this; exact this
  · rw [← froz_of]; exact World.frozen?_alloc_new w az _ v
theorem Cnt.next {w : World} {b k : Nat} (h : Cnt w.heap b k) (hk : k < 255) : Cnt (w.setCell ⟨b, FM.ex k, none⟩ (.int .i64 1)).heap b (k + 1) := by
  intro v hv
  refine ⟨?_, by rw [frozH_set]; exact (h v hv).2⟩
  rw [cellH_set _ _ _ _ _ _ _ (h (FM.ex k) (FM.ex_lt k)).1]
  have hp := FM.ex_pos k
  have hl := FM.lg_ex k
  rw [Nat.mod_eq_of_lt hk] at hl
  split
  · rename_i e
    rw [← e.2, if_pos ⟨hp, by omega⟩]
  · rename_i e
    rw [(h v hv).1]
    congr 2
    by_cases h0 : 0 < v
    · have hne : FM.lg v ≠ k := fun x => e ⟨rfl, by rw [← x]; exact FM.ex_lg h0 hv⟩
      by_cases h1 : FM.lg v < k
      · rw [if_pos ⟨h0, h1⟩, if_pos ⟨h0, by omega⟩]
      · rw [if_neg (by omega), if_neg (by omega)]
    · rw [if_neg (by omega), if_neg (by omega)]

set_option maxRecDepth 100000 in
set_option maxHeartbeats 2000000 in
theorem all_any (w : World) :
    Calls Try.prog 7 #[] w fun e w' => e = .returned (.bool true) ∧ Keeps w w' := by
  have hz := run_az
  go_enter Try.func7, Try.ntmps7
  go_wp2_with (first | (go_at_call 9; refine (new_any _).mono ?_; rintro e w1 ⟨rfl, hk, ht⟩) | (go_at_call 10; refine Calls.mono (inv_tab _ _ _ ht ?_) ?_; omega; rintro e w' ⟨rfl, n, rfl⟩) | (go_at_call 12; refine Calls.mono (log_tab _ _ _ ht ?_) ?_; omega; rintro e w' ⟨rfl, n, rfl⟩) | (go_at_call 15; refine Calls.mono (mul_tab _ _ _ _ ht ?_ ?_) ?_; omega; omega; rintro e w' ⟨rfl, n, rfl⟩) | (go_at_call 17; refine Calls.mono (exp_tab _ _ _ ht) ?_; rintro e w' ⟨rfl, rfl⟩) | (go_at_call 14; refine Calls.mono (add_any _ _ _ _ ?_ ?_) ?_; omega; omega; rintro e w' ⟨rfl, rfl⟩) | (go_at_call 19; refine (awake_any _).mono ?_; rintro e w2 ⟨rfl, hk2⟩; have ht := ht.keeps hk2; have hk := Keeps.trans hk hk2))
  clear hz
  have hB : w.heap.size < w2.heap.size := ht.lt
  go_loopw [3] (fun i wr => ∃ k : Nat, k ≤ 255 ∧ i = .int .i64 k ∧ Cnt wr.heap w2.heap.size k ∧ Tab wr.heap w.heap.size ∧ Keeps w wr) (fun i _ => 255 - (intOf i).toNat)
  case atStart => exact ⟨0, by omega, rfl, Cnt.zero w2, Tab.keeps ht ((Kept.refl _ _).alloc (Nat.le_refl _) _), hk.alloc (Nat.le_refl _) _⟩
  case round =>
    obtain ⟨k, hk', rfl, hc, ht1, hk1⟩ := hrel
    by_cases hlt : k < 255
    · have e1 : FM.ex (k % 255) = FM.ex k := FM.ex_mod k
      have e2 : FM.ex ((k : Int) % 255).toNat = FM.ex k := by rw [show ((k : Int) % 255).toNat = k % 255 from by omega]; exact e1
      have c1 := (hc (FM.ex k) (FM.ex_lt k)).1
      have f1 := (hc (FM.ex k) (FM.ex_lt k)).2
      rw [if_neg (by have := FM.lg_ex k; omega), ← cell_of] at c1
      rw [← froz_of] at f1
      have b1 := FM.ex_lt k
      have hn := hc.next hlt
      have HC := Lib.hid hc
      have HN := Lib.hid hn
      clear hc hn
      go_wp2_with (first | (go_at_call 17; refine Calls.mono (exp_tab _ _ _ ht1) ?_; rintro e w' ⟨rfl, rfl⟩))
      exact ⟨⟨k + 1, by omega, rfl, HN.out, Tab.kept ht1 ((Kept.refl w2.heap.size wr).setCell (Nat.le_refl _) _) hB, hk1.setCell (by simp only []; omega) _⟩, by simp [intOf]; omega⟩
    · obtain rfl : k = 255 := by omega
      have HC := Lib.hid hc
      clear hc
      go_wp2
      go_loopw [4] (fun i wr' => ∃ a : Nat, a ≤ 256 ∧ i = .int .i64 a ∧ Hid (Cnt wr'.heap w2.heap.size 255) ∧ Tab wr'.heap w.heap.size ∧ Keeps w wr') (fun i _ => 256 - (intOf i).toNat)
      case atStart => exact ⟨0, by omega, rfl, HC, ht1, hk1⟩
      case round =>
        obtain ⟨a, ha, rfl, hc, ht2, hk2⟩ := hrel
        by_cases hlt : a < 256
        · have c1 := (hc.out a hlt).1
          rw [← cell_of] at c1
          have l1 := FM.lg_lt a
          by_cases a0 : a = 0
          · subst a0
            rw [if_neg (by omega)] at c1
            go_wp2_with (first | (go_at_call 17; refine Calls.mono (exp_tab _ _ _ ht2) ?_; rintro e w' ⟨rfl, rfl⟩) | (go_at_call 12; refine Calls.mono (log_tab _ _ _ ht2 ?_) ?_; omega; rintro e w' ⟨rfl, n, rfl⟩))
            refine ⟨?_, by simp [intOf]⟩
            (repeat apply Exists.intro)
            exact ⟨⟨1, by omega, rfl, hc, ht2, hk2⟩, rfl⟩
          · rw [if_pos ⟨by omega, l1⟩] at c1
            have e3 : FM.ex (FM.lg a % 255) = a := by rw [Nat.mod_eq_of_lt l1]; exact FM.ex_lg (by omega) hlt
            have e3' : FM.ex ((FM.lg a : Int) % 255).toNat = a := by rw [show ((FM.lg a : Int) % 255).toNat = FM.lg a % 255 from by omega]; exact e3
            have a1 : (((a : Nat) : Int) != 0) = true := by rw [bne_iff_ne]; omega
            have a2 : 0 < a := by omega
            have mn : (if (1 : Int) < (a : Int) then (1 : Int) else (a : Int)) = 1 := by split <;> omega
            go_wp2_with (first | (go_at_call 17; refine Calls.mono (exp_tab _ _ _ ht2) ?_; rintro e w' ⟨rfl, rfl⟩) | (go_at_call 12; refine Calls.mono (log_tab _ _ _ ht2 ?_) ?_; omega; rintro e w' ⟨rfl, n, rfl⟩))
            refine ⟨?_, by simp [intOf]; omega⟩
            (repeat apply Exists.intro)
            exact ⟨⟨a + 1, by omega, rfl, hc, ht2, hk2⟩, rfl⟩
        · go_wp2
          go_ret
          exact ⟨rfl, hk2⟩

set_option maxRecDepth 100000 in
set_option maxHeartbeats 2000000 in
theorem names_any (w : World) :
    Calls Try.prog 4 #[] w fun e w' => e = .returned (.bool true) ∧ Keeps w w' := by
  go_enter Try.func4, Try.ntmps4
  go_wp2_with (go_at_call 9; refine (new_any _).mono ?_; rintro e w1 ⟨rfl, hk, ht⟩)
  go_loopw [3] (fun i wr => ∃ a : Nat, a ≤ 256 ∧ i = .int .i64 a ∧ Tab wr.heap w.heap.size ∧ Keeps w wr) (fun i _ => 256 - (intOf i).toNat)
  case atStart => exact ⟨0, by omega, rfl, ht, hk⟩
  case round =>
    clear ht hk
    obtain ⟨a, ha, rfl, ht, hk⟩ := hrel
    by_cases hlt : a < 256
    · have b1 := FM.inv_lt a
      by_cases a0 : a = 0
      · subst a0
        go_wp2_with (first | (go_at_call 10; (with_reducible refine Calls.mono (inv_tab _ _ _ ?_ ?_) ?_); exact ht; omega; rintro e w' ⟨rfl, n, rfl⟩) | (go_at_call 12; (with_reducible refine Calls.mono (log_tab _ _ _ ?_ ?_) ?_); exact ht; omega; rintro e w' ⟨rfl, n, rfl⟩) | (go_at_call 15; (with_reducible refine Calls.mono (mul_tab _ _ _ _ ?_ ?_ ?_) ?_); exact ht; omega; omega; rintro e w' ⟨rfl, n, rfl⟩) | (go_at_call 17; (with_reducible refine Calls.mono (exp_tab _ _ _ ?_) ?_); exact ht; rintro e w' ⟨rfl, rfl⟩) | (go_at_call 10; (with_reducible refine Calls.mono (inv_nil _ _ ?_) ?_); omega; rintro e w2 ⟨rfl, hk2⟩; have ht := Tab.keeps ht hk2; have hk := Keeps.trans hk hk2) | (go_at_call 12; (with_reducible refine Calls.mono (log_nil _ _ ?_) ?_); omega; rintro e w2 ⟨rfl, hk2⟩; have ht := Tab.keeps ht hk2; have hk := Keeps.trans hk hk2) | (go_at_call 15; (with_reducible refine Calls.mono (mul_nil _ _ _ ?_ ?_) ?_); omega; omega; rintro e w2 ⟨rfl, hk2⟩; have ht := Tab.keeps ht hk2; have hk := Keeps.trans hk hk2) | (go_at_call 17; (with_reducible refine Calls.mono (exp_nil _ _) ?_); rintro e w2 ⟨rfl, hk2⟩; have ht := Tab.keeps ht hk2; have hk := Keeps.trans hk hk2) | (go_at_call 14; refine Calls.mono (add_any _ _ _ _ ?_ ?_) ?_; omega; omega; rintro e w' ⟨rfl, rfl⟩) | (go_at_call 16; refine Calls.mono (refmul_any _ _ _ ?_ ?_) ?_; omega; omega; rintro e w' ⟨rfl, rfl⟩) | (go_at_call 11; refine Calls.mono (refinv_any _ _ ?_) ?_; omega; rintro e w' ⟨rfl, rfl⟩) | (go_at_call 18; refine Calls.mono (refexp_any _ _) ?_; rintro e w' ⟨rfl, rfl⟩) | (go_at_call 13; refine Calls.mono (reflog_any _ _ ?_) ?_; omega; rintro e w' ⟨rfl, rfl⟩))
        exact ⟨⟨1, by omega, rfl, ht, hk⟩, by simp [intOf]⟩
      · have a2 : 0 < a := by omega
        have a1 : (((a : Nat) : Int) != 0) = true := by rw [bne_iff_ne]; omega
        go_wp2_with (first | (go_at_call 10; (with_reducible refine Calls.mono (inv_tab _ _ _ ?_ ?_) ?_); exact ht; omega; rintro e w' ⟨rfl, n, rfl⟩) | (go_at_call 12; (with_reducible refine Calls.mono (log_tab _ _ _ ?_ ?_) ?_); exact ht; omega; rintro e w' ⟨rfl, n, rfl⟩) | (go_at_call 15; (with_reducible refine Calls.mono (mul_tab _ _ _ _ ?_ ?_ ?_) ?_); exact ht; omega; omega; rintro e w' ⟨rfl, n, rfl⟩) | (go_at_call 17; (with_reducible refine Calls.mono (exp_tab _ _ _ ?_) ?_); exact ht; rintro e w' ⟨rfl, rfl⟩) | (go_at_call 10; (with_reducible refine Calls.mono (inv_nil _ _ ?_) ?_); omega; rintro e w2 ⟨rfl, hk2⟩; have ht := Tab.keeps ht hk2; have hk := Keeps.trans hk hk2) | (go_at_call 12; (with_reducible refine Calls.mono (log_nil _ _ ?_) ?_); omega; rintro e w2 ⟨rfl, hk2⟩; have ht := Tab.keeps ht hk2; have hk := Keeps.trans hk hk2) | (go_at_call 15; (with_reducible refine Calls.mono (mul_nil _ _ _ ?_ ?_) ?_); omega; omega; rintro e w2 ⟨rfl, hk2⟩; have ht := Tab.keeps ht hk2; have hk := Keeps.trans hk hk2) | (go_at_call 17; (with_reducible refine Calls.mono (exp_nil _ _) ?_); rintro e w2 ⟨rfl, hk2⟩; have ht := Tab.keeps ht hk2; have hk := Keeps.trans hk hk2) | (go_at_call 14; refine Calls.mono (add_any _ _ _ _ ?_ ?_) ?_; omega; omega; rintro e w' ⟨rfl, rfl⟩) | (go_at_call 16; refine Calls.mono (refmul_any _ _ _ ?_ ?_) ?_; omega; omega; rintro e w' ⟨rfl, rfl⟩) | (go_at_call 11; refine Calls.mono (refinv_any _ _ ?_) ?_; omega; rintro e w' ⟨rfl, rfl⟩) | (go_at_call 18; refine Calls.mono (refexp_any _ _) ?_; rintro e w' ⟨rfl, rfl⟩) | (go_at_call 13; refine Calls.mono (reflog_any _ _ ?_) ?_; omega; rintro e w' ⟨rfl, rfl⟩))
        exact ⟨⟨a + 1, by omega, rfl, ht, hk⟩, by simp [intOf]; omega⟩
    · have k1 : FM.ex 254 = 142 := by decide
      have k2 : FM.ex 0 = 1 := by decide
      go_wp2_with (first | (go_at_call 10; (with_reducible refine Calls.mono (inv_tab _ _ _ ?_ ?_) ?_); exact ht; omega; rintro e w' ⟨rfl, n, rfl⟩) | (go_at_call 12; (with_reducible refine Calls.mono (log_tab _ _ _ ?_ ?_) ?_); exact ht; omega; rintro e w' ⟨rfl, n, rfl⟩) | (go_at_call 15; (with_reducible refine Calls.mono (mul_tab _ _ _ _ ?_ ?_ ?_) ?_); exact ht; omega; omega; rintro e w' ⟨rfl, n, rfl⟩) | (go_at_call 17; (with_reducible refine Calls.mono (exp_tab _ _ _ ?_) ?_); exact ht; rintro e w' ⟨rfl, rfl⟩) | (go_at_call 10; (with_reducible refine Calls.mono (inv_nil _ _ ?_) ?_); omega; rintro e w2 ⟨rfl, hk2⟩; have ht := Tab.keeps ht hk2; have hk := Keeps.trans hk hk2) | (go_at_call 12; (with_reducible refine Calls.mono (log_nil _ _ ?_) ?_); omega; rintro e w2 ⟨rfl, hk2⟩; have ht := Tab.keeps ht hk2; have hk := Keeps.trans hk hk2) | (go_at_call 15; (with_reducible refine Calls.mono (mul_nil _ _ _ ?_ ?_) ?_); omega; omega; rintro e w2 ⟨rfl, hk2⟩; have ht := Tab.keeps ht hk2; have hk := Keeps.trans hk hk2) | (go_at_call 17; (with_reducible refine Calls.mono (exp_nil _ _) ?_); rintro e w2 ⟨rfl, hk2⟩; have ht := Tab.keeps ht hk2; have hk := Keeps.trans hk hk2) | (go_at_call 14; refine Calls.mono (add_any _ _ _ _ ?_ ?_) ?_; omega; omega; rintro e w' ⟨rfl, rfl⟩) | (go_at_call 16; refine Calls.mono (refmul_any _ _ _ ?_ ?_) ?_; omega; omega; rintro e w' ⟨rfl, rfl⟩) | (go_at_call 11; refine Calls.mono (refinv_any _ _ ?_) ?_; omega; rintro e w' ⟨rfl, rfl⟩) | (go_at_call 18; refine Calls.mono (refexp_any _ _) ?_; rintro e w' ⟨rfl, rfl⟩) | (go_at_call 13; refine Calls.mono (reflog_any _ _ ?_) ?_; omega; rintro e w' ⟨rfl, rfl⟩) | (go_at_call 19; refine (awake_any _).mono ?_; rintro e w2 ⟨rfl, hk2⟩; have ht := ht.keeps hk2; have hk := Keeps.trans hk hk2))
      go_ret
      exact ⟨rfl, hk⟩
end Go.Proofs.Ytfjbimceehkndaa
