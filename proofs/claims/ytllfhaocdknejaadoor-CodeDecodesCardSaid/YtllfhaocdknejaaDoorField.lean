/- The walks of package field: New makes the table; Add, Mul, Inv, Exp, Log read it. -/
import Derived.Test.YtllfhaocdknejaaDoorRows
import Derived.Test.YtllfhaocdknejaaDoorBase
import Derived.Test.YtllfhaocdknejaaDoorFieldMath
namespace Go.Proofs.YtllfhaocdknejaaDoor
open Go.RowKit

def twoRep (n m : Nat) (u v : Value) : Array Value := ⟨List.replicate n u ++ List.replicate m v⟩
theorem twoRep_at (n m : Nat) (u v : Value) (i : Nat) (h : i < n + m) : (twoRep n m u v)[i]? = some (if i < n then u else v) := by
  unfold twoRep
  rw [← Array.getElem?_toList, List.getElem?_append]
  simp only [List.length_replicate, List.getElem?_replicate]
  split
  · rfl
  · rw [if_pos (by omega)]
def fz : Array Value := twoRep 510 256 (.int .u8 0) (.int .i64 0)
theorem run_fz (w : World) : (zeroValue 100).run Tryd.prog w = .ok (.agg fz) w := by kernel_rfl

/-- Block b holds the field's table. -/
def Tab (h : Array Obj) (b : Nat) : Prop :=
  (∀ i, i < 510 → cellH h b i = some (.int .u8 ((FM.ex i : Nat) : Int))) ∧ ∀ i, i < 256 → cellH h b (510 + i) = some (.int .i64 ((FM.lg i : Nat) : Int))
theorem Tab.kept {B b : Nat} {w w' : World} (h : Tab w.heap b) (k : Kept B w w') (hb : b < B) : Tab w'.heap b :=
  ⟨fun i hi => by rw [cellH_kept k hb]; exact h.1 i hi, fun i hi => by rw [cellH_kept k hb]; exact h.2 i hi⟩
theorem Tab.lt {h : Array Obj} {b : Nat} (t : Tab h b) : b < h.size := cellH_lt (t.1 0 (by omega))
theorem Tab.keeps {b : Nat} {w w' : World} (h : Tab w.heap b) (k : Keeps w w') : Tab w'.heap b := h.kept k h.lt

/-- Block b holds the table's first k powers. -/
structure Part (h : Array Obj) (b k : Nat) : Prop where
  any : ∀ i, i < 766 → ∃ v, cellH h b i = some v
  free : ∀ i, frozH h b i = false
  e : ∀ i, i < k → cellH h b i = some (.int .u8 ((FM.ex i : Nat) : Int)) ∧ cellH h b (i + 255) = some (.int .u8 ((FM.ex i : Nat) : Int))
  l : ∀ i, i < k → cellH h b (510 + FM.ex i) = some (.int .i64 (i : Int))
  z : cellH h b 510 = some (.int .i64 0)

theorem Part.tab {h : Array Obj} {b : Nat} (p : Part h b 255) : Tab h b := by
  refine ⟨fun i hi => ?_, fun i hi => ?_⟩
  · by_cases h1 : i < 255
    · exact (p.e i h1).1
    · have := (p.e (i - 255) (by omega)).2
      rw [show i - 255 + 255 = i from by omega] at this
      rw [this, show FM.ex i = FM.ex (i - 255) from by rw [← FM.ex_add (i - 255)]; congr 1; omega]
  · by_cases h1 : i = 0
    · subst h1; exact p.z
    · have := p.l (FM.lg i) (FM.lg_lt i)
      rw [FM.ex_lg (by omega) hi] at this
      exact this

theorem Part.next {w : World} {b k : Nat} (p : Part w.heap b k) (hk : k < 255) (w' : World)
    (hw : w' = ((w.setCell ⟨b, k, none⟩ (.int .u8 ((FM.ex k : Nat) : Int))).setCell ⟨b, k + 255, none⟩ (.int .u8 ((FM.ex k : Nat) : Int))).setCell ⟨b, 510 + FM.ex k, none⟩ (.int .i64 (k : Int))
      ∨ w' = ((w.setCell ⟨b, k + 255, none⟩ (.int .u8 ((FM.ex k : Nat) : Int))).setCell ⟨b, k, none⟩ (.int .u8 ((FM.ex k : Nat) : Int))).setCell ⟨b, 510 + FM.ex k, none⟩ (.int .i64 (k : Int))) : Part w'.heap b (k + 1) := by
  obtain ⟨v1, h1⟩ := p.any k (by omega)
  obtain ⟨v2, h2⟩ := p.any (k + 255) (by omega)
  have hx := FM.ex_lt k
  have hp := FM.ex_pos k
  obtain ⟨v3, h3⟩ := p.any (510 + FM.ex k) (by omega)
  have key : ∀ c j, cellH w'.heap c j = if b = c ∧ 510 + FM.ex k = j then some (.int .i64 (k : Int)) else if b = c ∧ (k = j ∨ k + 255 = j) then some (.int .u8 ((FM.ex k : Nat) : Int)) else cellH w.heap c j := by
    intro c j
    rcases hw with rfl | rfl
    · rw [cellH_set _ _ _ _ _ _ v3 (by rw [cellH_set _ _ _ _ _ _ v2 (by rw [cellH_set _ _ _ _ _ _ v1 h1, if_neg (by omega)]; exact h2), if_neg (by omega), cellH_set _ _ _ _ _ _ v1 h1, if_neg (by omega)]; exact h3),
        cellH_set _ _ _ _ _ _ v2 (by rw [cellH_set _ _ _ _ _ _ v1 h1, if_neg (by omega)]; exact h2), cellH_set _ _ _ _ _ _ v1 h1]
      by_cases e1 : b = c ∧ 510 + FM.ex k = j
      · rw [if_pos e1, if_pos e1]
      · rw [if_neg e1, if_neg e1]
        by_cases e2 : b = c ∧ k + 255 = j
        · rw [if_pos e2, if_pos ⟨e2.1, Or.inr e2.2⟩]
        · rw [if_neg e2]
          by_cases e3 : b = c ∧ k = j
          · rw [if_pos e3, if_pos ⟨e3.1, Or.inl e3.2⟩]
          · rw [if_neg e3, if_neg (by omega)]
    · rw [cellH_set _ _ _ _ _ _ v3 (by rw [cellH_set _ _ _ _ _ _ v1 (by rw [cellH_set _ _ _ _ _ _ v2 h2, if_neg (by omega)]; exact h1), if_neg (by omega), cellH_set _ _ _ _ _ _ v2 h2, if_neg (by omega)]; exact h3),
        cellH_set _ _ _ _ _ _ v1 (by rw [cellH_set _ _ _ _ _ _ v2 h2, if_neg (by omega)]; exact h1), cellH_set _ _ _ _ _ _ v2 h2]
      by_cases e1 : b = c ∧ 510 + FM.ex k = j
      · rw [if_pos e1, if_pos e1]
      · rw [if_neg e1, if_neg e1]
        by_cases e2 : b = c ∧ k + 255 = j
        · rw [if_neg (by omega), if_pos e2, if_pos ⟨e2.1, Or.inr e2.2⟩]
        · by_cases e3 : b = c ∧ k = j
          · rw [if_pos e3, if_pos ⟨e3.1, Or.inl e3.2⟩]
          · rw [if_neg e3, if_neg e2, if_neg (by omega)]
  have fr : ∀ i, frozH w'.heap b i = frozH w.heap b i := by
    intro i; rcases hw with rfl | rfl <;> rw [frozH_set, frozH_set, frozH_set]
  refine ⟨fun i hi => ?_, fun i => by rw [fr]; exact p.free i, fun i hi => ?_, fun i hi => ?_, ?_⟩
  · rw [key]; split
    · exact ⟨_, rfl⟩
    · split
      · exact ⟨_, rfl⟩
      · exact p.any i hi
  · by_cases e : i = k
    · subst e; rw [key, key, if_neg (by omega), if_pos ⟨rfl, Or.inl rfl⟩, if_neg (by omega), if_pos ⟨rfl, Or.inr rfl⟩]; exact ⟨rfl, rfl⟩
    · rw [key, key, if_neg (by omega), if_neg (by omega), if_neg (by omega), if_neg (by omega)]; exact p.e i (by omega)
  · by_cases e : i = k
    · subst e; rw [key, if_pos ⟨rfl, rfl⟩]
    · have hne : FM.ex i ≠ FM.ex k := fun x => e (FM.ex_inj (by omega) hk x)
      rw [key, if_neg (by omega), if_neg (by omega)]; exact p.l i (by omega)
  · rw [key, if_neg (by omega), if_neg (by omega)]; exact p.z

theorem Part.zero (w : World) : Part (w.alloc (.cells fz 100)).heap w.heap.size 0 := by
  have hc : ∀ i, cellH (w.alloc (.cells fz 100)).heap w.heap.size i = fz[i]? := by
    intro i; rw [← cell_of]; exact World.cell?_alloc_new w fz _ i
  have hz : ∀ i, i < 766 → fz[i]? = some (if i < 510 then .int .u8 0 else .int .i64 0) := fun i hi => twoRep_at 510 256 _ _ i hi
  refine ⟨fun i hi => ⟨_, (hc i).trans (hz i hi)⟩, fun i => ?_, fun i hi => by omega, fun i hi => by omega, ?_⟩
  · rw [← froz_of]; exact World.frozen?_alloc_new w fz _ i
  · rw [hc, hz 510 (by omega)]; rfl

set_option maxRecDepth 10000 in
set_option maxHeartbeats 1000000 in
theorem new_any (w : World) :
    Calls Tryd.prog 42 #[] w fun e w' => e = .returned (.pointer (some ⟨w.heap.size, 0, none⟩)) ∧ Keeps w w' ∧ Tab w'.heap w.heap.size := by
  have hz := run_fz
  go_enter Tryd.func42, Tryd.ntmps42
  go_wp2
  go_loopw [2, 6] (fun x i wr => ∃ k : Nat, k ≤ 255 ∧ i = .int .i64 k ∧ x = .int .i64 (FM.ex k : Nat) ∧ Part wr.heap w.heap.size k ∧ Below w.heap.size w wr) (fun _ i _ => 255 - (intOf i).toNat)
  case atStart => exact ⟨0, by omega, rfl, by rw [FM.ex_zero]; rfl, Part.zero w, (Below.refl _ _).alloc (Nat.le_refl _) _⟩
  case round =>
    obtain ⟨k, hk, rfl, rfl, hp, hb⟩ := hrel
    clear hz
    by_cases hlt : k < 255
    · have hx := FM.ex_lt k
      have hx0 := FM.ex_pos k
      obtain ⟨v1, h1⟩ := hp.any k (by omega)
      obtain ⟨v2, h2⟩ := hp.any (k + 255) (by omega)
      obtain ⟨v3, h3⟩ := hp.any (510 + FM.ex k) (by omega)
      rw [← cell_of] at h1 h2 h3
      have f1 := hp.free k
      have f2 := hp.free (k + 255)
      have f3 := hp.free (510 + FM.ex k)
      rw [← froz_of] at f1 f2 f3
      have hpn := hp.next hlt _ (Or.inl rfl)
      have hbn : Below w.heap.size w (((wr.setCell ⟨w.heap.size, k, none⟩ (.int .u8 ((FM.ex k : Nat) : Int))).setCell ⟨w.heap.size, k + 255, none⟩ (.int .u8 ((FM.ex k : Nat) : Int))).setCell ⟨w.heap.size, 510 + FM.ex k, none⟩ (.int .i64 (k : Int))).drew :=
        (((hb.setCell (Nat.le_refl _) _).setCell (Nat.le_refl _) _).setCell (Nat.le_refl _) _).drew
      have HP := Lib.hid hpn
      have HB := Lib.hid hbn
      clear hpn hbn
      by_cases hov : 255 < 2 * FM.ex k
      · have hs : Hid (bits .xor .i64 ((FM.ex k : Nat) * 2 : Int) 285 = ((FM.ex (k + 1) : Nat) : Int)) := by
          have := xor_i64 (FM.ex k * 2) 285 (by omega) (by omega)
          show _ = _
          rw [FM.ex_succ, FM.xt, if_pos hov, Nat.mul_comm 2, ← this]; rfl
        go_wp2
        go_region
        all_goals
          go_wp2
          exact ⟨⟨k + 1, by omega, rfl, by rw [hs.out], HP.out, HB.out⟩, by simp [intOf]; omega⟩
      · have hs : Hid (((FM.ex k : Nat) * 2 : Int) = ((FM.ex (k + 1) : Nat) : Int)) := by
          show _ = _
          rw [FM.ex_succ, FM.xt, if_neg hov, Nat.mul_comm 2]; rfl
        go_wp2
        go_region
        all_goals
          go_wp2
          exact ⟨⟨k + 1, by omega, rfl, by rw [hs.out], HP.out, HB.out⟩, by simp [intOf]; omega⟩
    · obtain rfl : k = 255 := by omega
      go_wp2
      go_ret
      exact ⟨rfl, hb.kept, hp.tab⟩

set_option maxHeartbeats 400000 in
theorem add_any (p : Value) (x y : Int) (w : World) (hx : 0 ≤ x ∧ x < 256) (hy : 0 ≤ y ∧ y < 256) :
    Calls Tryd.prog 47 #[p, .int .u8 x, .int .u8 y] w fun e w' => e = .returned (.int .u8 ((x.toNat ^^^ y.toNat : Nat) : Int)) ∧ w = w' := by
  obtain ⟨a, rfl⟩ := Int.eq_ofNat_of_zero_le hx.1
  obtain ⟨b, rfl⟩ := Int.eq_ofNat_of_zero_le hy.1
  go_enter Tryd.func47, Tryd.ntmps47
  go_wp2
  go_ret
  exact ⟨ret_int (xor_u8 a b (by omega) (by omega)), rfl⟩

set_option maxHeartbeats 400000 in
theorem or_tab (b : Nat) (w : World) :
    Calls Tryd.prog 61 #[.pointer (some ⟨b, 0, none⟩)] w fun e w' => e = .returned (.pointer (some ⟨b, 0, none⟩)) ∧ w = w' := by
  go_enter Tryd.func61, Tryd.ntmps61
  go_wp2
  go_ret
  exact ⟨rfl, rfl⟩

set_option maxHeartbeats 400000 in
theorem mul_zero (p : Value) (x y : Int) (w : World) (h : x = 0 ∨ y = 0) :
    Calls Tryd.prog 48 #[p, .int .u8 x, .int .u8 y] w fun e w' => e = .returned (.int .u8 0) ∧ w = w' := by
  by_cases ha : x = 0
  · subst ha
    go_enter Tryd.func48, Tryd.ntmps48
    go_wp2
    go_ret
    exact ⟨rfl, rfl⟩
  · obtain rfl : y = 0 := by omega
    have h1 : (x == 0) = false := by simpa using ha
    go_enter Tryd.func48, Tryd.ntmps48
    go_wp2
    go_ret
    exact ⟨rfl, rfl⟩

set_option maxHeartbeats 400000 in
theorem mul_tab (b : Nat) (x y : Int) (w : World) (ht : Tab w.heap b) (hx : 0 ≤ x ∧ x < 256) (hy : 0 ≤ y ∧ y < 256) :
    Calls Tryd.prog 48 #[.pointer (some ⟨b, 0, none⟩), .int .u8 x, .int .u8 y] w fun e w' => e = .returned (.int .u8 ((FM.mul x.toNat y.toNat : Nat) : Int)) ∧ ∃ n, w' = w.drewN n := by
  by_cases h0 : x = 0 ∨ y = 0
  · refine (mul_zero _ x y w h0).mono ?_
    rintro e w' ⟨rfl, rfl⟩
    refine ⟨?_, 0, rfl⟩
    rcases h0 with rfl | rfl
    · rw [show (0 : Int).toNat = 0 from rfl, FM.zero_mul]; rfl
    · rw [show (0 : Int).toNat = 0 from rfl, FM.mul_zero]; rfl
  · obtain ⟨p, rfl⟩ := Int.eq_ofNat_of_zero_le hx.1
    obtain ⟨q, rfl⟩ := Int.eq_ofNat_of_zero_le hy.1
    have a1 : (((p : Nat) : Int) == 0) = false := by rw [beq_eq_false_iff_ne]; omega
    have a2 : (((q : Nat) : Int) == 0) = false := by rw [beq_eq_false_iff_ne]; omega
    have hm : FM.mul p q = FM.ex (FM.lg p + FM.lg q) := by unfold FM.mul; rw [if_neg (by omega)]
    have l1 := FM.lg_lt p
    have l2 := FM.lg_lt q
    have c1 := ht.2 p (by omega)
    have c2 := ht.2 q (by omega)
    have c3 := ht.1 (FM.lg p + FM.lg q) (by omega)
    rw [← cell_of] at c1 c2 c3
    have HM := Lib.hid hm
    clear hm h0 ht
    go_enter Tryd.func48, Tryd.ntmps48
    go_wp2_with (go_at_call 61; refine (or_tab _ _).mono ?_; rintro e w' ⟨rfl, rfl⟩)
    go_quiet (fail)
    go_wp2
    go_ret
    exact ⟨ret_int (by simp [HM.out]), _, rfl⟩

set_option maxHeartbeats 400000 in
theorem inv_zero (p : Value) (w : World) :
    Calls Tryd.prog 46 #[p, .int .u8 0] w fun e w' => e = .returned (.tuple #[.int .u8 0, .bool false]) ∧ w = w' := by
  go_enter Tryd.func46, Tryd.ntmps46
  go_wp2
  go_ret2
  exact ⟨rfl, rfl⟩

theorem ret_two {u v u' v' : Value} (h : u = u') (k : v = v') : Ending.returned (.tuple #[u, v]) = .returned (.tuple #[u', v']) := by rw [h, k]

set_option maxHeartbeats 400000 in
theorem inv_tab (b : Nat) (x : Int) (w : World) (ht : Tab w.heap b) (hx : 0 ≤ x ∧ x < 256) :
    Calls Tryd.prog 46 #[.pointer (some ⟨b, 0, none⟩), .int .u8 x] w fun e w' => e = .returned (.tuple #[.int .u8 ((FM.inv x.toNat : Nat) : Int), .bool (decide (x ≠ 0))]) ∧ ∃ n, w' = w.drewN n := by
  by_cases h0 : x = 0
  · subst h0
    refine (inv_zero _ w).mono ?_
    rintro e w' ⟨rfl, rfl⟩
    exact ⟨rfl, 0, rfl⟩
  · obtain ⟨p, rfl⟩ := Int.eq_ofNat_of_zero_le hx.1
    have a1 : (((p : Nat) : Int) == 0) = false := by rw [beq_eq_false_iff_ne]; omega
    have hm : FM.inv p = FM.ex (255 - FM.lg p) := by unfold FM.inv; rw [if_neg (by omega)]
    have l1 := FM.lg_lt p
    have c1 := ht.2 p (by omega)
    have c3 := ht.1 (255 - FM.lg p) (by omega)
    rw [← cell_of] at c1 c3
    have HM := Lib.hid hm
    have H0 := Lib.hid h0
    clear hm h0 ht
    go_enter Tryd.func46, Tryd.ntmps46
    go_wp2_with (go_at_call 61; refine (or_tab _ _).mono ?_; rintro e w' ⟨rfl, rfl⟩)
    go_quiet (fail)
    go_wp2
    go_ret2
    exact ⟨ret_two (by simp [HM.out]) (by have := H0.out; simp; omega), _, rfl⟩
end Go.Proofs.YtllfhaocdknejaaDoor
