/- The walks of law19's large, file (without chunks), refused, works. -/
import Derived.Test.YtdpfanifagfciaaDoorNode5
import Derived.BigQuiet
import Derived.Deep.WholeRow
namespace Go.Proofs.YtdpfanifagfciaaDoor
open Go.RowKit
attribute [local go_sem ↓] Go.wp_at_zero Go.wp_at_succ
/-- What an entry counts. -/
def costE (x : EntR) : Nat := 1 + x.c.length + x.n.size / 64
def sumE (l : List EntR) (k : Nat) : Nat := ((l.take k).map costE).sum
theorem sumE_succ {l : List EntR} {k : Nat} (h : k < l.length) : sumE l (k + 1) = sumE l k + costE (eAt l k) := by
  unfold sumE; rw [take_eAt h]; simp
theorem sumE_mono (l : List EntR) (k : Nat) : sumE l k ≤ sumE l l.length := by
  unfold sumE
  rw [List.take_length]
  have : ((l.take k ++ l.drop k).map costE).sum = ((l.take k).map costE).sum + ((l.drop k).map costE).sum := by rw [List.map_append, List.sum_append]
  rw [List.take_append_drop] at this
  omega
def largeL (l : List EntR) : Bool := decide (3000 ≤ sumE l l.length)
theorem sum_mem {l : List Nat} {x : Nat} (h : x ∈ l) : x ≤ l.sum := by
  induction l with
  | nil => cases h
  | cons y l ih =>
    rw [List.sum_cons]
    rcases List.mem_cons.1 h with rfl | h
    · omega
    · have := ih h; omega
theorem sum_len {l : List EntR} : l.length ≤ (l.map costE).sum := by
  induction l with
  | nil => simp
  | cons y l ih => simp only [List.map_cons, List.sum_cons, List.length_cons]; unfold costE at *; omega
theorem largeL_no {l : List EntR} (h : largeL l = false) : l.length < 3000 ∧ ∀ x ∈ l, x.c.length < 3000 ∧ x.n.size < 200000 := by
  unfold largeL sumE at h
  rw [decide_eq_false_iff_not, List.take_length] at h
  refine ⟨by have := @sum_len l; omega, fun x hx => ?_⟩
  have := sum_mem (List.mem_map_of_mem (f := costE) hx)
  unfold costE at this h
  omega
theorem largeL_num {l : List EntR} (h : largeL l = false) : NumE l := let ⟨a, b⟩ := largeL_no h; ⟨by omega, fun x hx => by have := (b x hx).1; omega⟩
/-- What any entries weigh. -/
def WeighE (l : List EntR) : Prop := ∀ x ∈ l, x.c.length ≤ 140737488351232 ∧ x.n.size ≤ 140737488351232
set_option maxRecDepth 100000 in
set_option maxHeartbeats 4000000 in
theorem large_any (v : Value) (l : List EntR) (w : World) (h : EntsAt w.heap v l) (hw : WeighE l) : Calls Tryd.prog 19 #[v] w fun e w' => e = .returned (.bool (largeL l)) ∧ Keeps w w' := by
  obtain ⟨p, q, rfl⟩ := rec_shape h
  have hl63 : l.length ≤ 9223372036854775807 := let ⟨_, _, _, x, _⟩ := h; x
  have H := Lib.hid h
  have HW := Lib.hid hw
  clear h hw
  go_enter Tryd.func19, Tryd.ntmps19
  go_wp2_with fail
  go_loopw [3, 4] (fun n i wr => ∃ k s : Nat, k ≤ l.length ∧ n = .int .i64 (s : Int) ∧ i = .int .i64 k ∧ s ≤ 1000000000000000 ∧ Hid (s = sumE l k) ∧ Hid (Keeps w wr)) (fun _ i _ => l.length - (intOf i).toNat)
  case atStart => exact ⟨0, 0, by omega, rfl, rfl, by omega, by show _ = _; unfold sumE; simp, keeps_refl _⟩
  case round =>
    obtain ⟨k, s, hk, rfl, rfl, hs, hS, hK⟩ := hrel
    by_cases hlt : k < l.length
    · have hlt64 : decide ((k : Int) < (l.length : Int)) = true := decide_eq_true (by omega)
      have hlt65 : (k : Int) < (l.length : Int) := by omega
      by_cases h3 : s < 3000
      · have g3 : decide ((s : Int) < 3000) = true := decide_eq_true (by omega)
        have g4 : (s : Int) < 3000 := by omega
        have hk0 : (0 : Int) ≤ (k : Int) := by omega
        obtain ⟨b, o, pc, qc, rfl, _, c0, _, _, c3, _, _⟩ := ent_cell (EntsAt.keeps H.out hK.out) hlt
        obtain ⟨z1, z2⟩ := HW.out _ (eAt_mem hlt)
        have HS2 : Hid (∀ t : Nat, t = s + 1 + (eAt l k).c.length + (eAt l k).n.size / 64 → t = sumE l (k + 1)) := fun t e => by
          rw [sumE_succ hlt, ← hS.out, e]; unfold costE; omega
        generalize (eAt l k).c.length = m at *
        generalize (eAt l k).n = nm at *
        have d1 : Int.tdiv (nm.size : Int) 64 = ((nm.size / 64 : Nat) : Int) := by
          rw [Int.tdiv_eq_ediv_of_nonneg (by omega)]; omega
        have HT := Lib.hid (HS2.out _ rfl)
        have hd2 : nm.size / 64 ≤ 140737488351232 := by omega
        clear HS2
        generalize nm.size / 64 = D at *
        go_wp2_with fail
        go_quiet (fail)
        go_wp2_with fail
        refine ⟨?_, by simp [intOf]; omega⟩
        first | exact ⟨k + 1, s + 1 + m + D, by omega, by go_num, by go_num, by omega, HT, hK⟩ | ((repeat apply Exists.intro); exact ⟨⟨k + 1, s + 1 + m + D, by omega, by go_num, by go_num, by omega, HT, hK⟩, rfl⟩)
      · have g3 : decide ((s : Int) < 3000) = false := decide_eq_false (by omega)
        have g4 : decide ((3000 : Int) ≤ (s : Int)) = true := decide_eq_true (by omega)
        have HT : Hid (largeL l = true) := decide_eq_true (by have := sumE_mono l k; rw [← hS.out] at this; omega)
        clear h3
        go_wp2_with fail
        go_ret
        exact ⟨by rw [HT.out]; rfl, hK.out⟩
    · obtain rfl : k = l.length := by omega
      have HT : Hid (largeL l = decide ((3000 : Int) ≤ (s : Int))) := by
        show _ = _; unfold largeL; rw [← hS.out]; exact decide_eq_decide.2 (by omega)
      generalize hg : decide ((3000 : Int) ≤ (s : Int)) = bb at *
      go_wp2_with fail
      go_ret
      exact ⟨by rw [HT.out]; rfl, hK.out⟩
/-- A file of so many bytes, without chunks. -/
def fileE (nm : ByteArray) (z : Int) : EntR := ⟨nm, false, z, []⟩
def fileV (nm : ByteArray) (z : Int) : Value := .agg #[.string nm, .bool false, .int .i64 z, .slice none 0 0]
def entL (x : EntR) : List Value := [.string x.n, .bool x.d, .int .i64 x.z, .slice none 0 0]
def entsL (l : List EntR) : List Value := (l.map entL).flatten
theorem ents_lit (w : World) (l : List EntR) (cs : Array Value) (n c : Nat) (hcs : cs = (entsL l).toArray) (hn : l.length = n) (h63 : n ≤ 9223372036854775807) (h0 : ∀ x ∈ l, x.c = []) : EntsAt (w.alloc (.cells cs 33)).heap (.slice (some ⟨w.heap.size, 0, none⟩) n c) l := by
  subst hn hcs
  have hk : ∀ i (h : i < (l.map entL).length), (l.map entL)[i].length = 4 := fun i h => by simp [entL]
  refine ⟨_, c, rfl, h63, fun i hi => ⟨w.heap.size, 0, entL l[i], rfl, rfl, fun j hj => ?_, ⟨.slice none 0 0, rfl, ?_, fun a n q e => by cases e; exact Nat.le_refl _⟩⟩⟩
  · have h4 := flat_at (l.map entL) hk i j (by simpa using hi) (by rw [hk]; exact hj)
    rw [← cell_of, World.cell?_alloc_new, Nat.zero_add]
    show (entsL l).toArray[i * 4 + j]? = _
    rw [← Array.getElem?_toList]
    show (entsL l)[i * 4 + j]? = _
    unfold entsL
    rw [h4]; simp
  · rw [h0 _ (List.getElem_mem hi)]
    exact ⟨none, 0, rfl, by simp, fun i hi => absurd hi (by simp)⟩
theorem setRow_alloc1 (w : World) (o : Obj) (c c' : Array Value) (t : TypeId) : ((w.alloc o).alloc (.cells c t)).setRow (w.heap.size + 1) c' = (w.alloc o).alloc (.cells c' t) := by
  have := World.setRow_alloc_new (w.alloc o) c c' t
  rwa [World.size_alloc] at this
theorem heap_alloc_last1 (w : World) (o o' : Obj) : ((w.alloc o).alloc o').heap[w.heap.size + 1]? = some o' := by
  have := heap_alloc_last (w.alloc o) o'
  rwa [World.size_alloc] at this
set_option maxRecDepth 100000 in
set_option maxHeartbeats 4000000 in
theorem file0_any (nm : ByteArray) (z : Int) (w : World) : Calls Tryd.prog 44 #[.string nm, .int .i64 z, .int .i64 0] w fun e w' => e = .returned (fileV nm z) ∧ Keeps w w' := by
  go_enter Tryd.func44, Tryd.ntmps44
  go_wp2_with (refine wpList_store_row rfl 33 (.tmp 7) (.tmp 11) rfl (w.heap.size + 1) #[.string nm, .bool false, .int .i64 z, .slice none 0 0] rfl rfl 33 _ (heap_alloc_last1 w _ _) (by kernel_rfl) rfl (entA_one nm false z none 0 0) ?_; rw [setRow_alloc1])
  go_loopw [8] (fun i wr => i = .int .i64 0 ∧ Hid (BlkAt wr w.heap.size 33 #[.string ByteArray.empty, .bool false, .int .i64 0, .slice none 0 0]) ∧ Hid (BlkAt wr (w.heap.size + 1) 33 #[.string nm, .bool false, .int .i64 z, .slice none 0 0]) ∧ Hid (Keeps w wr)) (fun _ _ => 0)
  case atStart => exact ⟨rfl, (BlkAt.new w _ _).keeps (kal _ _), heap_alloc_last1 w _ _, (kal _ _).trans (kal _ _)⟩
  case round =>
    obtain ⟨rfl, h1, h2, hK⟩ := hrel
    go_wp2_with (first | (refine wpList_load_row rfl 33 (.tmp 7) rfl (w.heap.size + 1) rfl 33 _ (0, 0) _ h2.out Tryd.underlying33 rfl (by kernel_rfl) ?_) | (refine wpList_store_row rfl 33 (.tmp 6) (.tmp 23) rfl w.heap.size #[.string nm, .bool false, .int .i64 z, .slice none 0 0] rfl rfl 33 _ h1.out (by kernel_rfl) rfl (entA_one nm false z none 0 0) ?_))
    exact bodyPost_ret (v := fileV nm z) (results_cell_row rfl _ _ w.heap.size 33 (#[.string nm, .bool false, .int .i64 z, .slice none 0 0] : Array Value) (0, 0) _ rfl (setRow_heap wr _ _ _ _ _ h1.out) Tryd.underlying33 rfl (by kernel_rfl)) rfl ⟨rfl, hK.out.then (chg_kept (B := w.heap.size) (chg_row _ _ _) (fun q _ e => by subst e; exact Nat.le_refl _) hK.out.size) (Nat.le_refl _)⟩
theorem makeE_no {l : List EntR} (h : mayL l = false) : makeE l = (⟨#[]⟩, 4) := by unfold makeE; rw [h]; rfl
set_option maxRecDepth 100000 in
set_option maxHeartbeats 4000000 in
/-- What may not be is refused. -/
theorem refused_any (v : Value) (l : List EntR) (w : World) (h : EntsAt w.heap v l) (hm : mayL l = false) : Calls Tryd.prog 45 #[v] w fun e w' => e = .returned (.bool true) ∧ Keeps w w' := by
  have H := Lib.hid h
  have HE := Lib.hid (makeE_no hm)
  have HM := Lib.hid hm
  obtain ⟨p, q, rfl⟩ := rec_shape h
  clear h hm
  go_enter Tryd.func45, Tryd.ntmps45
  go_wp2_with fail
  refine Calls.mono (nmake_any _ l _ H.out) ?_
  rintro e w1 ⟨rfl, hk1⟩
  rw [HE.out]
  go_wp2_with fail
  refine Calls.mono (nmay_any _ l _ (EntsAt.keeps H.out hk1)) ?_
  rintro e w2 ⟨rfl, hk2⟩
  rw [HM.out]
  go_wp2_with fail
  go_ret
  exact ⟨rfl, hk1.trans hk2⟩
def bA : ByteArray := ⟨#[97]⟩
def bB : ByteArray := ⟨#[98]⟩
def bXY : ByteArray := ⟨#[120, 47, 121]⟩
theorem wk0 : makeE [] = (⟨#[100, 105, 114, 49, 0, 0]⟩, 0) := by decide +kernel
theorem wk1 : makeE [fileE ⟨#[97]⟩ 0] = (⟨#[100, 105, 114, 49, 0, 1, 0, 1, 97, 0, 0, 0, 0, 0, 0]⟩, 0) := by decide +kernel
theorem wk2 : mayL [fileE ⟨#[97]⟩ 1] = false := by decide +kernel
theorem wk3 : mayL [fileE ⟨#[97]⟩ 0, fileE ⟨#[97]⟩ 0] = false := by decide +kernel
theorem wk4 : mayL [fileE ⟨#[98]⟩ 0, fileE ⟨#[97]⟩ 0] = false := by decide +kernel
theorem wk5 : mayL [fileE ⟨#[120, 47, 121]⟩ 0] = false := by decide +kernel
set_option maxRecDepth 100000 in
set_option maxHeartbeats 8000000 in
theorem works_any (w : World) : Calls Tryd.prog 18 #[] w fun e w' => e = .returned (.bool true) ∧ Keeps w w' := by
  go_enter Tryd.func18, Tryd.ntmps18
  go_wp2_with fail
  refine Calls.mono (nmake_any _ [] _ (RecAt.nil _ _ _)) ?_
  rintro e w1 ⟨rfl, hk1⟩
  rw [wk0]
  have HK := Lib.hid hk1
  clear hk1
  go_wp2_with fail
  refine Calls.mono (file0_any _ _ _) ?_
  rintro e w2 ⟨rfl, hk2⟩
  unfold fileV
  have HK2 := Lib.hid (HK.out.trans hk2)
  clear hk2
  clear HK
  have HK := HK2
  clear HK2
  go_wp2_with fail
  refine Calls.mono (nmake_any _ [fileE ⟨#[97]⟩ 0] _ (ents_lit _ _ _ 1 1 rfl rfl (by decide) (by simp [fileE]))) ?_
  rintro e w3 ⟨rfl, hk3⟩
  rw [wk1]
  have HK2 := Lib.hid (HK.out.trans ((kal _ _).trans hk3))
  clear hk3
  clear HK
  have HK := HK2
  clear HK2
  go_wp2_with fail
  refine Calls.mono (file0_any _ _ _) ?_
  rintro e w2 ⟨rfl, hk2⟩
  unfold fileV
  have HK2 := Lib.hid (HK.out.trans hk2)
  clear hk2
  clear HK
  have HK := HK2
  clear HK2
  go_wp2_with fail
  refine Calls.mono (refused_any _ [fileE ⟨#[97]⟩ 1] _ (ents_lit _ _ _ 1 1 rfl rfl (by decide) (by simp [fileE])) wk2) ?_
  rintro e w3 ⟨rfl, hk3⟩
  have HK2 := Lib.hid (HK.out.trans ((kal _ _).trans hk3))
  clear hk3
  clear HK
  have HK := HK2
  clear HK2
  go_wp2_with fail
  refine Calls.mono (file0_any _ _ _) ?_
  rintro e w2 ⟨rfl, hk2⟩
  unfold fileV
  have HK2 := Lib.hid (HK.out.trans hk2)
  clear hk2
  clear HK
  have HK := HK2
  clear HK2
  go_wp2_with fail
  refine Calls.mono (file0_any _ _ _) ?_
  rintro e w2 ⟨rfl, hk2⟩
  unfold fileV
  have HK2 := Lib.hid (HK.out.trans hk2)
  clear hk2
  clear HK
  have HK := HK2
  clear HK2
  go_wp2_with fail
  refine Calls.mono (refused_any _ [fileE ⟨#[97]⟩ 0, fileE ⟨#[97]⟩ 0] _ (ents_lit _ _ _ 2 2 rfl rfl (by decide) (by simp [fileE])) wk3) ?_
  rintro e w3 ⟨rfl, hk3⟩
  have HK2 := Lib.hid (HK.out.trans ((kal _ _).trans hk3))
  clear hk3
  clear HK
  have HK := HK2
  clear HK2
  go_wp2_with fail
  refine Calls.mono (file0_any _ _ _) ?_
  rintro e w2 ⟨rfl, hk2⟩
  unfold fileV
  have HK2 := Lib.hid (HK.out.trans hk2)
  clear hk2
  clear HK
  have HK := HK2
  clear HK2
  go_wp2_with fail
  refine Calls.mono (file0_any _ _ _) ?_
  rintro e w2 ⟨rfl, hk2⟩
  unfold fileV
  have HK2 := Lib.hid (HK.out.trans hk2)
  clear hk2
  clear HK
  have HK := HK2
  clear HK2
  go_wp2_with fail
  refine Calls.mono (refused_any _ [fileE ⟨#[98]⟩ 0, fileE ⟨#[97]⟩ 0] _ (ents_lit _ _ _ 2 2 rfl rfl (by decide) (by simp [fileE])) wk4) ?_
  rintro e w3 ⟨rfl, hk3⟩
  have HK2 := Lib.hid (HK.out.trans ((kal _ _).trans hk3))
  clear hk3
  clear HK
  have HK := HK2
  clear HK2
  go_wp2_with fail
  refine Calls.mono (file0_any _ _ _) ?_
  rintro e w2 ⟨rfl, hk2⟩
  unfold fileV
  have HK2 := Lib.hid (HK.out.trans hk2)
  clear hk2
  clear HK
  have HK := HK2
  clear HK2
  go_wp2_with fail
  refine Calls.mono (refused_any _ [fileE ⟨#[120, 47, 121]⟩ 0] _ (ents_lit _ _ _ 1 1 rfl rfl (by decide) (by simp [fileE])) wk5) ?_
  rintro e w3 ⟨rfl, hk3⟩
  have HK2 := Lib.hid (HK.out.trans ((kal _ _).trans hk3))
  clear hk3
  clear HK
  have HK := HK2
  clear HK2
  go_wp2_with fail
  go_ret
  exact ⟨rfl, HK.out⟩
end Go.Proofs.YtdpfanifagfciaaDoor
