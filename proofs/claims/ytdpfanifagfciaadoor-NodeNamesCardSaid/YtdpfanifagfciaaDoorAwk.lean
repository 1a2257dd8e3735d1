/- The walks of the laws' long and awake. -/
import Derived.Test.YtdpfanifagfciaaDoorTreeT
namespace Go.Proofs.YtdpfanifagfciaaDoor
open Go.RowKit
attribute [local go_sem ↓] Go.wp_at_zero Go.wp_at_succ
/-- A file's cells. -/
def fileL (x : FileR) : List Value := [.string x.p, .bool x.d, .string x.t]
def filesL (l : List FileR) : List Value := (l.map fileL).flatten
theorem files_lit (w : World) (l : List FileR) (cs : Array Value) (n c : Nat) (hcs : cs = (filesL l).toArray) (hn : l.length = n) (h63 : n ≤ 9223372036854775807) : FilesAt (w.alloc (.cells cs 47)).heap (.slice (some ⟨w.heap.size, 0, none⟩) n c) l := by
  subst hn hcs
  have hk : ∀ i (h : i < (l.map fileL).length), (l.map fileL)[i].length = 3 := fun i h => by simp [fileL]
  refine ⟨_, c, rfl, h63, fun i hi => ⟨w.heap.size, 0, fileL l[i], rfl, rfl, fun j hj => ?_, rfl⟩⟩
  have h4 := flat_at (l.map fileL) hk i j (by simpa using hi) (by rw [hk]; exact hj)
  rw [← cell_of, World.cell?_alloc_new, Nat.zero_add]
  show (filesL l).toArray[i * 3 + j]? = _
  rw [← Array.getElem?_toList]
  show (filesL l)[i * 3 + j]? = _
  unfold filesL
  rw [h4]; simp
theorem smallF_of {l : List FileR} (h : ∀ x ∈ l, x.p.size ≤ 100000 ∧ x.t.size ≤ 100000) : SmallF l := fun _ hk => h _ (fAt_mem hk)
/-- Is a list more than a statement goes over? -/
def longF (l : List FileR) : Bool := decide (300 < l.length) || l.any fun x => decide (400 < x.p.size) || decide (20000 < x.t.size)
theorem longF_no {l : List FileR} (h : longF l = false) : l.length ≤ 300 ∧ ∀ x ∈ l, x.p.size ≤ 400 ∧ x.t.size ≤ 20000 := by
  unfold longF at h
  rw [Bool.or_eq_false_iff, decide_eq_false_iff_not, List.any_eq_false] at h
  refine ⟨by omega, fun x hx => ?_⟩
  have := h.2 x hx
  simp at this
  exact this
theorem longF_small {l : List FileR} (h : longF l = false) : SmallF l := smallF_of fun x hx => by have := (longF_no h).2 x hx; omega
theorem longF_size {l : List FileR} (h : longF l = false) : sizeF l ≤ 1000000000 := by
  obtain ⟨h1, h2⟩ := longF_no h
  have : ∀ m : List FileR, (∀ x ∈ m, x.t.size ≤ 20000) → sizeF m ≤ 20000 * m.length := by
    intro m
    induction m with
    | nil => intro _; simp [sizeF]
    | cons x m ih =>
      intro hm
      have a := hm x (List.mem_cons_self ..)
      have b := ih fun y hy => hm y (List.mem_cons_of_mem _ hy)
      simp only [sizeF, List.length_cons]
      omega
  have := this l fun x hx => (h2 x hx).2
  omega
theorem longF_yes {l : List FileR} {k : Nat} (hk : k < l.length) (h : 400 < (fAt l k).p.size ∨ 20000 < (fAt l k).t.size) : longF l = true := by
  unfold longF
  rw [Bool.or_eq_true, List.any_eq_true]
  refine .inr ⟨_, fAt_mem hk, ?_⟩
  simp
  exact h
theorem longF_false {l : List FileR} (h1 : l.length ≤ 300) (h : ∀ k, k < l.length → (fAt l k).p.size ≤ 400 ∧ (fAt l k).t.size ≤ 20000) : longF l = false := by
  unfold longF
  rw [Bool.or_eq_false_iff, decide_eq_false_iff_not, List.any_eq_false]
  refine ⟨by omega, fun x hx => ?_⟩
  obtain ⟨i, hi, rfl⟩ := mem_fAt hx
  have := h i hi
  simp
  exact this
set_option maxRecDepth 100000 in
set_option maxHeartbeats 4000000 in
theorem long18_any (v : Value) (l : List FileR) (w : World) (h : FilesAt w.heap v l) : Calls Tryd.prog 27 #[v] w fun e w' => e = .returned (.bool (longF l)) ∧ w = w' := by
  obtain ⟨p, q, rfl⟩ := rec_shape h
  by_cases hl : 300 < l.length
  · have HT : Hid (longF l = true) := by show _ = _; unfold longF; rw [decide_eq_true hl]; rfl
    have h64 : (300 : Int) < (l.length : Int) := by omega
    rw [HT.out]
    clear h HT
    go_enter Tryd.func27, Tryd.ntmps27
    go_wp2_with fail
    go_ret
    exact ⟨rfl, rfl⟩
  have H := Lib.hid h
  clear h
  have h64 : ¬ (300 : Int) < (l.length : Int) := by omega
  go_enter Tryd.func27, Tryd.ntmps27
  go_wp2_with fail
  go_loopw [3] (fun i wr => ∃ k : Nat, k ≤ l.length ∧ i = .int .i64 k ∧ Hid (∀ j, j < k → (fAt l j).p.size ≤ 400 ∧ (fAt l j).t.size ≤ 20000) ∧ w = wr) (fun i _ => l.length - (intOf i).toNat)
  case atStart => exact ⟨0, by omega, rfl, fun j h => absurd h (by omega), rfl⟩
  case round =>
    obtain ⟨k, hk, rfl, hA, rfl⟩ := hrel
    by_cases hlt : k < l.length
    · have hlt64 : (k : Int) < (l.length : Int) := by omega
      have hk0 : (0 : Int) ≤ (k : Int) := by omega
      obtain ⟨b, off, rfl, _, d0, d1, d2⟩ := file_cell H.out hlt
      have HY := Lib.hid (longF_yes (l := l) hlt)
      have HN : Hid ((fAt l k).p.size ≤ 400 → (fAt l k).t.size ≤ 20000 → ∀ j, j < k + 1 → (fAt l j).p.size ≤ 400 ∧ (fAt l j).t.size ≤ 20000) := fun a b j hj => by
        by_cases e : j = k
        · subst e; exact ⟨a, b⟩
        · exact hA.out j (by omega)
      clear d1
      generalize (fAt l k).p = P at *
      generalize (fAt l k).t = T at *
      by_cases h1 : 400 < P.size
      · have g1 : decide ((400 : Int) < (P.size : Int)) = true := decide_eq_true (by omega)
        have HT := Lib.hid (HY.out (.inl h1))
        clear h1
        go_wp2_with fail
        go_ret
        exact ⟨by rw [HT.out]; rfl, rfl⟩
      · have g1 : decide ((400 : Int) < (P.size : Int)) = false := decide_eq_false (by omega)
        by_cases h2 : 20000 < T.size
        · have g2 : decide ((20000 : Int) < (T.size : Int)) = true := decide_eq_true (by omega)
          have HT := Lib.hid (HY.out (.inr h2))
          clear h1 h2
          go_wp2_with fail
          go_ret
          exact ⟨by rw [HT.out]; rfl, rfl⟩
        · have g2 : decide ((20000 : Int) < (T.size : Int)) = false := decide_eq_false (by omega)
          have HN2 := Lib.hid (HN.out (by omega) (by omega))
          clear h1 h2
          go_wp2_with fail
          exact ⟨⟨k + 1, by omega, by go_num, HN2, by first | rfl | trivial⟩, by simp [intOf]; omega⟩
    · obtain rfl : k = l.length := by omega
      have HT := Lib.hid (longF_false (by omega) hA.out)
      go_wp2_with fail
      go_ret
      exact ⟨by rw [HT.out]; rfl, rfl⟩
def fA : FileR := ⟨⟨#[97]⟩, true, ⟨#[]⟩⟩
def fAb : FileR := ⟨⟨#[97, 47, 98]⟩, false, ⟨#[]⟩⟩
def fAf : FileR := ⟨⟨#[97]⟩, false, ⟨#[]⟩⟩
theorem aw1 : stepsT ⟨#[97, 47, 98, 46, 99]⟩ = [⟨#[97]⟩, ⟨#[98, 46, 99]⟩] := by decide +kernel
theorem aw2 : upT ⟨#[97, 47, 98, 46, 99]⟩ = ⟨#[97]⟩ ∧ upIs ⟨#[97, 47, 98, 46, 99]⟩ = true := by decide +kernel
theorem aw3 : upT ⟨#[97]⟩ = ⟨#[]⟩ ∧ upIs ⟨#[97]⟩ = false := by decide +kernel
theorem aw4 : kidsF [fA, fAb] ⟨#[97]⟩ 2 = [1] := by decide +kernel
theorem aw5 : mayPath (⟨#[97, 47, 98, 46, 99]⟩ : ByteArray).data.toList = true := by decide +kernel
theorem aw6 : treeF [fA, fAb] = true := by decide +kernel
theorem aw7 : treeF [fAb] = false := by decide +kernel
theorem aw8 : treeF [fAf, fAb] = false := by decide +kernel
theorem aw9 : mayPath (⟨#[97, 47]⟩ : ByteArray).data.toList = false := by decide +kernel
theorem aw10 : SmallF [fA, fAb] := smallF_of fun x hx => by simp at hx; rcases hx with rfl | rfl <;> decide
theorem aw11 : SmallF [fAb] := smallF_of fun x hx => by simp at hx; subst hx; decide
theorem aw12 : SmallF [fAf, fAb] := smallF_of fun x hx => by simp at hx; rcases hx with rfl | rfl <;> decide
set_option maxRecDepth 100000 in
set_option maxHeartbeats 4000000 in
theorem awake_any (w : World) : Calls Tryd.prog 26 #[] w fun e w' => e = .returned (.bool true) ∧ Keeps w w' := by
  go_enter Tryd.func26, Tryd.ntmps26
  go_wp2_with fail
  refine Calls.mono (steps_any _ _ (by decide)) ?_
  rintro e w1 ⟨v1, rfl, hs1, hk1⟩
  rw [aw1] at hs1
  have HS1 := Lib.hid hs1.at_
  obtain ⟨p1, q1, e1⟩ := seq_shape hs1.at_
  have e1' : v1 = .slice p1 2 q1 := e1
  clear e1 hs1
  subst e1'
  have HK1 := Lib.hid hk1
  clear hk1
  go_wp2_with fail
  refine Calls.mono (above_any _ _ (by decide)) ?_
  rintro e w2 ⟨rfl, rfl⟩
  rw [aw2.1, aw2.2]
  go_wp2_with fail
  refine Calls.mono (above_any _ _ (by decide)) ?_
  rintro e w2 ⟨rfl, rfl⟩
  rw [aw3.1, aw3.2]
  go_wp2_with fail
  refine Calls.mono (kids_any _ [fA, fAb] _ _ (files_lit _ _ _ _ _ rfl rfl (by decide)) aw10 (by decide)) ?_
  rintro e w3 ⟨v3, rfl, hs3, hk3⟩
  have hs3' := hs3.at_
  rw [show kidsF [fA, fAb] ⟨#[97]⟩ [fA, fAb].length = [1] from aw4] at hs3'
  obtain ⟨p3, q3, e3⟩ := seq_shape hs3'
  have e3' : v3 = .slice p3 1 q3 := e3
  clear e3 hs3
  subst e3'
  have HK3 : Hid (Keeps w w3) := HK1.out.trans (Keeps.trans (kal _ _) hk3)
  have HS3 := Lib.hid (SeqAt.keeps HS1.out (Keeps.trans (kal _ _) hk3))
  have HI3 := Lib.hid hs3'
  clear hs3' hk3 HS1
  go_wp2_with fail
  refine Calls.mono (may_any _ _) ?_
  rintro e w4 ⟨rfl, hk4⟩
  rw [aw5]
  have HK4 : Hid (Keeps w w4) := HK3.out.trans hk4
  have HI4 := Lib.hid (SeqAt.keeps HI3.out hk4)
  have hs4 := SeqAt.keeps HS3.out hk4
  obtain ⟨b1, o1, c1, u1, e1, d1, r1⟩ := seq_cell hs4 (i := 1) (by decide)
  injection e1 with e1 e4 e5
  subst e1 e5
  clear e4
  unfold IsText at r1
  subst r1
  replace d1 : w4.cell? ⟨b1, o1 + 1, none⟩ = some (.string ⟨#[98, 46, 99]⟩) := d1
  clear hs4 hk4 HI3
  go_wp2_with fail
  refine Calls.mono (tree_any _ [fA, fAb] _ (files_lit _ _ _ _ _ rfl rfl (by decide)) aw10) ?_
  rintro e w5 ⟨rfl, hk5⟩
  rw [aw6]
  have HK5 : Hid (Keeps w w5) := HK4.out.trans (Keeps.trans (kal _ _) hk5)
  have HI5 := Lib.hid (SeqAt.keeps HI4.out (Keeps.trans (kal _ _) hk5))
  clear hk5 HI4 d1
  go_wp2_with fail
  refine Calls.mono (tree_any _ [fAb] _ (files_lit _ _ _ _ _ rfl rfl (by decide)) aw11) ?_
  rintro e w6 ⟨rfl, hk6⟩
  rw [aw7]
  have HK6 : Hid (Keeps w w6) := HK5.out.trans (Keeps.trans (kal _ _) hk6)
  have HI6 := Lib.hid (SeqAt.keeps HI5.out (Keeps.trans (kal _ _) hk6))
  clear hk6 HI5
  go_wp2_with fail
  refine Calls.mono (tree_any _ [fAf, fAb] _ (files_lit _ _ _ _ _ rfl rfl (by decide)) aw12) ?_
  rintro e w7 ⟨rfl, hk7⟩
  rw [aw8]
  have HK7 : Hid (Keeps w w7) := HK6.out.trans (Keeps.trans (kal _ _) hk7)
  have hs7 := SeqAt.keeps HI6.out (Keeps.trans (kal _ _) hk7)
  obtain ⟨b3, o3, c3, u3, e3, d3, r3⟩ := seq_cell hs7 (i := 0) (by decide)
  injection e3 with e3 e4 e5
  subst e3 e5
  clear e4
  unfold IsInt at r3
  subst r3
  replace d3 : w7.cell? ⟨b3, o3, none⟩ = some (.int .i64 1) := d3
  clear hk7 HI6 hs7
  go_wp2_with fail
  refine Calls.mono (may_any _ _) ?_
  rintro e w8 ⟨rfl, hk8⟩
  rw [aw9]
  have HK8 : Hid (Keeps w w8) := HK7.out.trans hk8
  clear hk8
  go_wp2_with fail
  go_ret
  exact ⟨rfl, HK8.out⟩
end Go.Proofs.YtdpfanifagfciaaDoor
