/- The field's calls on bytes; a matrix of what a function says. -/
import Derived.Test.YtllfhaocdknejaaDoorField
import Derived.Test.YtllfhaocdknejaaDoorCodeM
import Derived.Deep.RegionWith
namespace Go.Proofs.YtllfhaocdknejaaDoor
open Go.RowKit

theorem gmul_tab (b : Nat) (x y : UInt8) (w : World) (ht : Tab w.heap b) :
    Calls Tryd.prog 48 #[.pointer (some ⟨b, 0, none⟩), .int .u8 (x.toNat : Int), .int .u8 (y.toNat : Int)] w fun e w' => e = .returned (.int .u8 ((LA.mul x y).toNat : Int)) ∧ ∃ n, w' = w.drewN n := by
  have hx := x.toNat_lt
  have hy := y.toNat_lt
  refine (mul_tab b _ _ w ht (by omega) (by omega)).mono ?_
  rintro e w' ⟨rfl, h⟩
  exact ⟨by rw [LA.mul_toNat]; rfl, h⟩
theorem gadd_any (p : Value) (x y : UInt8) (w : World) :
    Calls Tryd.prog 47 #[p, .int .u8 (x.toNat : Int), .int .u8 (y.toNat : Int)] w fun e w' => e = .returned (.int .u8 ((x ^^^ y).toNat : Int)) ∧ w = w' := by
  have hx := x.toNat_lt
  have hy := y.toNat_lt
  refine (add_any p _ _ w (by omega) (by omega)).mono ?_
  rintro e w' ⟨rfl, h⟩
  exact ⟨by rw [LA.xor_toNat]; rfl, h⟩
theorem ginv_tab (b : Nat) (x : UInt8) (w : World) (ht : Tab w.heap b) :
    Calls Tryd.prog 46 #[.pointer (some ⟨b, 0, none⟩), .int .u8 (x.toNat : Int)] w fun e w' => ∃ ok, e = .returned (.tuple #[.int .u8 ((LA.inv x).toNat : Int), .bool ok]) ∧ ∃ n, w' = w.drewN n := by
  have hx := x.toNat_lt
  refine (inv_tab b _ w ht (by omega)).mono ?_
  rintro e w' ⟨rfl, h⟩
  exact ⟨_, by rw [LA.inv_toNat]; rfl, h⟩

theorem mk_rows (n : Nat) (h : n ≤ 4096) (w : World) : (Instr.makeSlice 48 (.int .i64 (n : Int)) (.int .i64 (n : Int))).run Tryd.prog w = .ok (.slice (some ⟨w.heap.size, 0, none⟩) n n) (w.alloc (.cells (reps n (.slice none 0 0)) 39)) :=
  run_mk 48 39 24 (.slice none 0 0) Tryd.underlying48 (by kernel_rfl) rfl n (by omega) (by omega) w
theorem mk_row (n : Nat) (h : n ≤ 4096) (w : World) : (Instr.makeSlice 39 (.int .i64 (n : Int)) (.int .i64 (n : Int))).run Tryd.prog w = .ok (.slice (some ⟨w.heap.size, 0, none⟩) n n) (w.alloc (.cells (reps n (.int .u8 0)) 5)) :=
  run_mk 39 5 1 (.int .u8 0) Tryd.underlying39 (by kernel_rfl) rfl n (by omega) (by omega) w

/-- A call of a function that has a body enters it. -/
theorem enters_body {f : FuncId} {fn : Func} {c : Code} (hf : Tryd.prog.funcs[f]? = some fn) (hname : (fn.name == "runtime.NumGoroutine") = false) (hb : fn.body = some c) (xs : Array Value) (w : World) :
    (callFunc f xs).run Tryd.prog w = .ok (.enter f xs) w := by
  have h1 : fn.name ≠ "runtime.NumGoroutine" := by simpa using hname
  simp [callFunc, hf, h1, hb, mark]
/-- The first k rows are done: block b holds them. -/
def Rows' (b k rows cols : Nat) (g : Nat → Nat → UInt8) (h : Array Obj) : Prop :=
  typH h b = some 39 ∧ (∀ i, i < rows → frozH h b i = false ∧ ∃ u, cellH h b i = some u) ∧ ∀ i, i < k → ∃ u, cellH h b i = some u ∧ RowIn (b < ·) h u ((List.range cols).map (g i))
/-- The first k numbers of a row are done: block b holds them. -/
def Row' (b k cols : Nat) (g : Nat → UInt8) (h : Array Obj) : Prop :=
  typH h b = some 5 ∧ (∀ j, j < cols → frozH h b j = false ∧ ∃ u, cellH h b j = some u) ∧ ∀ j, j < k → cellH h b j = some (.int .u8 ((g j).toNat : Int))

theorem reps_cell (w : World) (n : Nat) (z : Value) (e : TypeId) (i : Nat) (h : i < n) : cellH (w.alloc (.cells (reps n z) e)).heap w.heap.size i = some z ∧ frozH (w.alloc (.cells (reps n z) e)).heap w.heap.size i = false :=
  ⟨by rw [← cell_of, World.cell?_alloc_new]; exact reps_at z h, by rw [← froz_of]; exact World.frozen?_alloc_new _ _ _ _⟩
theorem Rows'.zero (w : World) (rows cols : Nat) (g : Nat → Nat → UInt8) : Rows' w.heap.size 0 rows cols g (w.alloc (.cells (reps rows (.slice none 0 0)) 39)).heap :=
  ⟨typH_new _ _ _, fun i hi => ⟨(reps_cell w rows _ _ i hi).2, _, (reps_cell w rows _ _ i hi).1⟩, fun i hi => by omega⟩
theorem Row'.zero (w : World) (cols : Nat) (g : Nat → UInt8) : Row' w.heap.size 0 cols g (w.alloc (.cells (reps cols (.int .u8 0)) 5)).heap :=
  ⟨typH_new _ _ _, fun i hi => ⟨(reps_cell w cols _ _ i hi).2, _, (reps_cell w cols _ _ i hi).1⟩, fun i hi => by omega⟩
theorem Row'.next {w : World} {b k cols : Nat} {g : Nat → UInt8} (h : Row' b k cols g w.heap) (hk : k < cols) : Row' b (k + 1) cols g (w.setCell ⟨b, k, none⟩ (.int .u8 ((g k).toNat : Int))).heap := by
  obtain ⟨u, hu⟩ := (h.2.1 k hk).2
  refine ⟨by rw [typH_set]; exact h.1, fun i hi => ⟨by rw [frozH_set]; exact (h.2.1 i hi).1, ?_⟩, fun i hi => ?_⟩
  · rw [cellH_set _ _ _ _ _ _ u hu]; split
    · exact ⟨_, rfl⟩
    · exact (h.2.1 i hi).2
  · rw [cellH_set _ _ _ _ _ _ u hu]; split
    · rename_i e; rw [e.2]
    · exact h.2.2 i (by omega)
theorem Row'.chg {w w' : World} {b k cols : Nat} {g : Nat → UInt8} {T : Nat → Prop} (h : Row' b k cols g w.heap) (c : Chg T w w') (hb : b < w.heap.size) (ht : ¬ T b) : Row' b k cols g w'.heap :=
  ⟨typH_chg c h.1 ht, fun i hi => ⟨by rw [frozH_chg c hb ht]; exact (h.2.1 i hi).1, let ⟨u, hu⟩ := (h.2.1 i hi).2; ⟨u, cellH_chg c hu ht⟩⟩, fun i hi => cellH_chg c (h.2.2 i hi) ht⟩
theorem Row'.row {h : Array Obj} {b cols : Nat} {g : Nat → UInt8} (r : Row' b cols cols g h) (hc : cols ≤ 1000000) (S : Nat → Prop) (hb : S b) : RowIn S h (.slice (some ⟨b, 0, none⟩) cols cols) ((List.range cols).map g) := by
  refine ⟨some ⟨b, 0, none⟩, cols, by rw [List.length_map, List.length_range], by rw [List.length_map, List.length_range]; omega, fun i hi => ?_⟩
  rw [List.length_map, List.length_range] at hi
  refine ⟨b, 0, _, rfl, ⟨hb, r.1⟩, by rw [Nat.zero_add]; exact (r.2.1 i hi).1, by rw [Nat.zero_add]; exact r.2.2 i hi, ?_⟩
  rw [List.getElem_map, List.getElem_range]; rfl
theorem Rows'.mat {h : Array Obj} {b rows cols : Nat} {g : Nat → Nat → UInt8} (r : Rows' b rows rows cols g h) (hr : rows ≤ 1000000) : MatIn (b ≤ ·) h (.slice (some ⟨b, 0, none⟩) rows rows) (matOf rows cols g) := by
  unfold matOf
  refine ⟨some ⟨b, 0, none⟩, rows, by rw [List.length_map, List.length_range], by rw [List.length_map, List.length_range]; omega, fun i hi => ?_⟩
  rw [List.length_map, List.length_range] at hi
  obtain ⟨u, hu, hru⟩ := r.2.2 i hi
  refine ⟨b, 0, u, rfl, ⟨Nat.le_refl _, r.1⟩, by rw [Nat.zero_add]; exact (r.2.1 i hi).1, by rw [Nat.zero_add]; exact hu, ?_⟩
  rw [List.getElem_map, List.getElem_range]
  exact SeqIn.mono hru (fun _ h => Nat.le_of_lt h) fun _ _ x => x
theorem Rows'.next {wr wr2 : World} {b k rows cols : Nat} {g : Nat → Nat → UInt8} (h : Rows' b k rows cols g wr.heap) (hk : k < rows) (hb : b < wr.heap.size) (hC : cols ≤ 1000000)
    (c : Chg (fun x => x = wr.heap.size) ((wr.setCell ⟨b, k, none⟩ (.slice (some ⟨wr.heap.size, 0, none⟩) cols cols)).alloc (.cells (reps cols (.int .u8 0)) 5)) wr2) (hrow : Row' wr.heap.size cols cols (g k) wr2.heap) :
    Rows' b (k + 1) rows cols g wr2.heap := by
  obtain ⟨u, hu⟩ := (h.2.1 k hk).2
  have hne : ¬ b = wr.heap.size := by omega
  have c1 : Chg (fun x => x = b) wr ((wr.setCell ⟨b, k, none⟩ (.slice (some ⟨wr.heap.size, 0, none⟩) cols cols)).alloc (.cells (reps cols (.int .u8 0)) 5)) :=
    Chg.alloc (Chg.setCell (Chg.refl (fun x => x = b) wr) (fun _ => rfl) _) _
  have c2 : Chg (fun x => x = b ∨ x = wr.heap.size) wr wr2 := (c1.mono fun _ _ h => .inl h).trans (c.mono fun _ _ h => .inr h)
  have k1 : ∀ j u', cellH wr.heap b j = some u' → cellH wr2.heap b j = some (if k = j then .slice (some ⟨wr.heap.size, 0, none⟩) cols cols else u') := by
    intro j u' hj
    refine cellH_chg c ?_ hne
    have : cellH ((wr.setCell ⟨b, k, none⟩ (.slice (some ⟨wr.heap.size, 0, none⟩) cols cols)).alloc (.cells (reps cols (.int .u8 0)) 5)).heap b j = cellH (wr.setCell ⟨b, k, none⟩ (.slice (some ⟨wr.heap.size, 0, none⟩) cols cols)).heap b j := by
      rw [← cell_of, ← cell_of]; exact World.cell?_alloc_past _ _ _ (by simpa using hb)
    rw [this, cellH_set _ _ _ _ _ _ u hu]
    by_cases e1 : k = j
    · rw [if_pos ⟨rfl, e1⟩, if_pos e1]
    · rw [if_neg (fun x => e1 x.2), if_neg e1, hj]
  refine ⟨?_, fun i hi => ?_, fun i hi => ?_⟩
  · refine typH_chg c ?_ hne
    have e0 : typH ((wr.setCell ⟨b, k, none⟩ (.slice (some ⟨wr.heap.size, 0, none⟩) cols cols)).alloc (.cells (reps cols (.int .u8 0)) 5)).heap b = typH (wr.setCell ⟨b, k, none⟩ (.slice (some ⟨wr.heap.size, 0, none⟩) cols cols)).heap b := by
      unfold typH; rw [Below.heap_alloc _ _ _ (by simpa using hb)]
    rw [e0, typH_set]; exact h.1
  · obtain ⟨h1, u', h2⟩ := h.2.1 i hi
    refine ⟨?_, _, k1 i u' h2⟩
    rw [frozH_chg c (by simp; omega) hne, ← froz_of, World.frozen?_alloc_past _ _ _ (by simpa using hb), froz_of, frozH_set]; exact h1
  · by_cases e1 : i = k
    · subst e1
      refine ⟨_, by rw [k1 i u hu, if_pos rfl], ?_⟩
      exact hrow.row hC _ hb
    · obtain ⟨u', h1, h2⟩ := h.2.2 i (by omega)
      refine ⟨u', by rw [k1 i u' h1, if_neg (fun x => e1 x.symm)], ?_⟩
      exact SeqIn.chg h2 c2 (fun x hx hs _ => by omega) fun _ _ _ x => x

set_option maxRecDepth 100000 in
set_option maxHeartbeats 1000000 in
theorem made_cap (rows cols : Nat) (fn : FuncId) (caps : Array Value) (g : Nat → Nat → UInt8) (w : World) (hr : rows ≤ 255) (hc : cols ≤ 255)
    (hcf : ∀ (xs : Array Value) (wx : World), (callFunc fn xs).run Tryd.prog wx = .ok (.enter fn xs) wx)
    (hf : ∀ wx, Keeps w wx → ∀ i j : Nat, i < rows → j < cols → Calls Tryd.prog fn (#[.int .i64 (i : Int), .int .i64 (j : Int)] ++ caps) wx fun e w' => e = .returned (.int .u8 ((g i j).toNat : Int)) ∧ Keeps wx w') :
    Calls Tryd.prog 43 #[.int .i64 (rows : Int), .int .i64 (cols : Int), .func (.func fn) #[] caps] w fun e w' => ∃ b, e = .returned (.slice (some ⟨b, 0, none⟩) rows rows) ∧ MatIn (w.heap.size ≤ ·) w'.heap (.slice (some ⟨b, 0, none⟩) rows rows) (matOf rows cols g) ∧ Keeps w w' := by
  have HF := Lib.hid hf
  clear hf
  have hm1 := mk_rows rows (by omega)
  have hm2 := mk_row cols (by omega)
  go_enter Tryd.func43, Tryd.ntmps43
  go_wp2
  clear hm1
  go_loopw [14] (fun i wr => ∃ k : Nat, k ≤ rows ∧ i = .int .i64 k ∧ Rows' w.heap.size k rows cols g wr.heap ∧ w.heap.size < wr.heap.size ∧ Keeps w wr) (fun i _ => rows - (intOf i).toNat)
  case atStart => exact ⟨0, by omega, rfl, Rows'.zero w rows cols g, by simp, (Kept.refl _ _).alloc (Nat.le_refl _) _⟩
  case round =>
    obtain ⟨k, hk, rfl, hR, hsz, hK⟩ := hrel
    obtain ⟨wo, rfl⟩ : ∃ wo : World, wo = wr := ⟨_, rfl⟩
    by_cases hlt : k < rows
    · obtain ⟨f0, u0, c0⟩ := hR.2.1 k hlt
      rw [← froz_of] at f0
      rw [← cell_of] at c0
      have hs : ∀ v, (wo.setCell ⟨w.heap.size, k, none⟩ v).cell? ⟨w.heap.size, k, none⟩ = some v := fun v => World.cell?_setCell_same _ _ _ c0
      have HR := Lib.hid hR
      clear hR
      have hb1 : w.heap.size < ((wo.setCell ⟨w.heap.size, k, none⟩ (.slice (some ⟨wo.heap.size, 0, none⟩) cols cols)).alloc (.cells (reps cols (.int .u8 0)) 5)).heap.size := by simp; omega
      have hB0 : cellH ((wo.setCell ⟨w.heap.size, k, none⟩ (.slice (some ⟨wo.heap.size, 0, none⟩) cols cols)).alloc (.cells (reps cols (.int .u8 0)) 5)).heap w.heap.size k = some (.slice (some ⟨wo.heap.size, 0, none⟩) cols cols) := by
        rw [← cell_of, World.cell?_alloc_past _ _ _ (by simpa using hsz)]; exact hs _
      have hR0 := Row'.zero (wo.setCell ⟨w.heap.size, k, none⟩ (.slice (some ⟨wo.heap.size, 0, none⟩) cols cols)) cols (g k)
      have hK0 : Keeps w ((wo.setCell ⟨w.heap.size, k, none⟩ (.slice (some ⟨wo.heap.size, 0, none⟩) cols cols)).alloc (.cells (reps cols (.int .u8 0)) 5)) :=
        (hK.setCell (Nat.le_refl _) _).alloc (Nat.le_refl _) _
      have hn1 : wo.heap.size < ((wo.setCell ⟨w.heap.size, k, none⟩ (.slice (some ⟨wo.heap.size, 0, none⟩) cols cols)).alloc (.cells (reps cols (.int .u8 0)) 5)).heap.size := by simp
      rw [World.size_setCell] at hR0
      have HB := Lib.hid hB0
      have HR0 := Lib.hid hR0
      have HK := Lib.hid hK0
      have HN := Lib.hid hn1
      clear hb1 hB0 hR0 hK0 hn1 hK
      go_wp2_with fail
      clear f0 c0 hs hm2
      go_loopw [27] (fun i wi => ∃ j : Nat, j ≤ cols ∧ i = .int .i64 j ∧ Hid (Row' wo.heap.size j cols (g k) wi.heap) ∧
        Hid (Chg (fun x => x = wo.heap.size) ((wo.setCell ⟨w.heap.size, k, none⟩ (.slice (some ⟨wo.heap.size, 0, none⟩) cols cols)).alloc (.cells (reps cols (.int .u8 0)) 5)) wi)) (fun i _ => cols - (intOf i).toNat)
      case atStart => exact ⟨0, by omega, rfl, HR0, Chg.refl _ _⟩
      case round =>
        obtain ⟨j, hj, rfl, hr1, hc1⟩ := hrel
        have cB : wr.cell? ⟨w.heap.size, k, none⟩ = some (.slice (some ⟨wo.heap.size, 0, none⟩) cols cols) := by
          rw [cell_of]; exact cellH_chg hc1.out HB.out (by omega)
        by_cases hjl : j < cols
        · obtain ⟨fj, uj, cj⟩ := hr1.out.2.1 j hjl
          rw [← cell_of] at cj
          rw [← froz_of] at fj
          have hki : Hid (Keeps w wr) := (HK.out.chg.trans (hc1.out.mono fun x hx e => by omega)).keeps fun x hx => by omega
          go_wp2_with fail
          go_region_with ((with_reducible refine Calls.mono (HF.out _ ?_ k j ?_ ?_) ?_); exact hki.out; exact hlt; exact hjl; rintro e w3 ⟨rfl, hk3⟩; have cB3 := keeps_cell hk3 cB; have cj3 := keeps_cell hk3 cj; have fj3 := keeps_froz hk3 cj fj)
          all_goals
            go_wp2
            have hb : wo.heap.size < wr.heap.size := by have := hc1.out.size; have := HN.out; omega
            have hk4 : Keeps wr w3 := hk3
            exact ⟨⟨j + 1, by omega, rfl, (hr1.out.chg (T := fun _ => False) (Kept.any hk4) hb (fun x => x)).next hjl, (hc1.out.trans (Kept.any hk4)).setCell (fun _ => rfl) _⟩, by simp [intOf]; omega⟩
        · obtain rfl : j = cols := by omega
          go_wp2
          exact ⟨⟨k + 1, by omega, rfl, HR.out.next hlt hsz (by omega) hc1.out hr1.out, by have := hc1.out.size; have := HN.out; omega, (HK.out.chg.trans (hc1.out.mono fun x hx e => by omega)).keeps fun x hx => by omega⟩, by simp [intOf]; omega⟩
    · obtain rfl : k = rows := by omega
      go_wp2
      go_ret
      exact ⟨_, rfl, hR.mat (by omega), hK⟩
theorem made_any (rows cols : Nat) (fn : FuncId) (caps : Array Value) (g : Nat → Nat → UInt8) (w : World) (hr : rows ≤ 255) (hc : cols ≤ 255)
    (hcf : ∀ (xs : Array Value) (wx : World), (callFunc fn xs).run Tryd.prog wx = .ok (.enter fn xs) wx)
    (hf : ∀ wx, Keeps w wx → ∀ i j : Nat, i < rows → j < cols → Calls Tryd.prog fn (#[.int .i64 (i : Int), .int .i64 (j : Int)] ++ caps) wx fun e w' => e = .returned (.int .u8 ((g i j).toNat : Int)) ∧ Keeps wx w') :
    Calls Tryd.prog 43 #[.int .i64 (rows : Int), .int .i64 (cols : Int), .func (.func fn) #[] caps] w fun e w' => ∃ v, e = .returned v ∧ MatIn (w.heap.size ≤ ·) w'.heap v (matOf rows cols g) ∧ Keeps w w' :=
  (made_cap rows cols fn caps g w hr hc hcf hf).mono fun _ _ ⟨_, h1, h2, h3⟩ => ⟨_, h1, h2, h3⟩
end Go.Proofs.YtllfhaocdknejaaDoor
