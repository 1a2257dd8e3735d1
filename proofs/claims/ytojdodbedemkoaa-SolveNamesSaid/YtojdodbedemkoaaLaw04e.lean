/- The walk of the law's closed examples of package solve. -/
import Derived.Test.YtojdodbedemkoaaSolLaw
import Derived.Test.YtojdodbedemkoaaDraw
namespace Go.Proofs.Ytojdodbedemkoaa
open Go.RowKit
attribute [local go_sem ↓] Go.wp_at_zero Go.wp_at_succ
abbrev MatsAt (h : Array Obj) (v : Value) (l : List (List (List UInt8))) : Prop := SeqAt (fun u m => MatAt h u m) h v l
theorem MatsAt.keeps {w w' : World} {v : Value} {l : List (List (List UInt8))} (s : MatsAt w.heap v l) (k : Keeps w w') : MatsAt w'.heap v l :=
  (SeqAt.keeps s k).imp (fun _ _ _ e => e) fun _ _ _ r => MatAt.keeps r k
/-- What may not be. -/
def badMs : List (List (List UInt8)) := [[], [[]], [[1], [1, 2]], [[], []], List.replicate 256 [], [List.replicate 256 0]]
/-- What the operations that write out the examples give. -/
def lit04 : Nat → Value → World → Prop
  | 0, v, w => MatAt w.heap v [[]]
  | 1, v, w => RowAt w.heap v [1]
  | 2, v, w => RowAt w.heap v [1, 2]
  | 3, v, w => MatAt w.heap v [[1], [1, 2]]
  | 4, v, w => RowAt w.heap v []
  | 5, v, w => RowAt w.heap v []
  | 6, v, w => MatAt w.heap v [[], []]
  | 7, v, w => MatAt w.heap v (List.replicate 256 [])
  | 8, v, w => RowAt w.heap v (List.replicate 256 0)
  | 9, v, w => MatAt w.heap v [List.replicate 256 0]
  | 10, v, w => MatsAt w.heap v badMs
  | 11, v, _ => v = .int .i64 6
  | _, v, _ => v = .int .i64 0
theorem lit04_keeps (i : Nat) (v : Value) (w w' : World) (k : Keeps w w') (h : lit04 i v w) : lit04 i v w' := by
  match i, h with
  | 0, h => exact MatAt.keeps h k
  | 1, h => exact SeqAt.keeps h k
  | 2, h => exact SeqAt.keeps h k
  | 3, h => exact MatAt.keeps h k
  | 4, h => exact SeqAt.keeps h k
  | 5, h => exact SeqAt.keeps h k
  | 6, h => exact MatAt.keeps h k
  | 7, h => exact MatAt.keeps h k
  | 8, h => exact SeqAt.keeps h k
  | 9, h => exact MatAt.keeps h k
  | 10, h => exact MatsAt.keeps h k
  | 11, h => exact h
  | _ + 12, h => exact h
theorem bad_may : (badMs.all fun m => !mayB 255 m && decide (m.length ≤ 256)) = true := by decide +kernel
theorem bad_at {k : Nat} (h : k < badMs.length) : turnM badMs[k] = ([], 4) ∧ rankM badMs[k] = (0, 4) ∧ downM badMs[k] = ([], 4) ∧ (∀ v, solveM badMs[k] v = ([], 4)) ∧ badMs[k].length ≤ 256 := by
  have h1 := List.all_eq_true.1 bad_may _ (List.getElem_mem h)
  simp only [Bool.and_eq_true, Bool.not_eq_true', decide_eq_true_eq] at h1
  obtain ⟨h1, h2⟩ := h1
  refine ⟨by unfold turnM; rw [h1]; rfl, by unfold rankM; rw [h1]; rfl, by unfold downM; rw [h1]; rfl, fun v => by unfold solveM; rw [h1]; rfl, h2⟩
theorem ex_n1 : turnM [[1, 2]] = ([], 4) := by decide +kernel
theorem ex_n2 : solveM [[1]] [] = ([], 4) := by decide +kernel
theorem ex_n3 : solveM [[0]] [1] = ([], 5) := by decide +kernel
theorem ex_n4 : downM [[0, 0, 3], [0, 2, 0], [0, 4, 1]] = ([[0, 1, 0], [0, 0, 1], [0, 0, 0]], 0) := by decide +kernel
theorem reps_row (w : World) (n : Nat) (hn : n ≤ 4096) : RowAt (w.alloc (.cells (reps n (.int .u8 0)) 5)).heap (.slice (some ⟨w.heap.size, 0, none⟩) n n) (List.replicate n 0) :=
  seqAt_lit w _ _ _ n n (by simp) (by omega) fun i hi => ⟨.int .u8 0, reps_at _ (by simpa using hi), by show _ = _; simp⟩
theorem reps_mat (w : World) (n : Nat) (hn : n ≤ 4096) : MatAt (w.alloc (.cells (reps n (.slice none 0 0)) 33)).heap (.slice (some ⟨w.heap.size, 0, none⟩) n n) (List.replicate n []) :=
  seqAt_lit w _ _ _ n n (by simp) (by omega) fun i hi => ⟨.slice none 0 0, reps_at _ (by simpa using hi), by rw [List.getElem_replicate]; exact SeqAt.nil _ _⟩
theorem mat3_lit (w : World) (a b c : List UInt8) (n k l : Nat) (hn : a.length = n) (hk : b.length = k) (hl : c.length = l) (h1 : n ≤ 9223372036854775807) (h2 : k ≤ 9223372036854775807) (h3 : l ≤ 9223372036854775807) :
    MatAt ((((w.alloc (.cells ⟨bytesV a⟩ 5)).alloc (.cells ⟨bytesV b⟩ 5)).alloc (.cells ⟨bytesV c⟩ 5)).alloc (.cells #[.slice (some ⟨w.heap.size, 0, none⟩) n n, .slice (some ⟨w.heap.size + 1, 0, none⟩) k k, .slice (some ⟨w.heap.size + 1 + 1, 0, none⟩) l l] 33)).heap (.slice (some ⟨w.heap.size + 1 + 1 + 1, 0, none⟩) 3 3) [a, b, c] :=
  SeqAt.there (matAt_lit _ [_, _, _] [a, b, c] 3 3 rfl (by omega) rfl (fun i hi => match i, hi with
    | 0, _ => RowAt.al (RowAt.al (rowAt_lit w a n n hn h1) _) _
    | 1, _ => RowAt.al (SeqAt.there (rowAt_lit _ b k k hk h2) (by simp)) _
    | 2, _ => SeqAt.there (rowAt_lit _ c l l hl h3) (by simp))) (by simp)
theorem slot_eval {a : Act} {d : Nat} {v : Value} (h : a.tmps[d]? = some v) : a.eval (.tmp d) = v := by
  show a.tmps.getD d undef = _
  rw [Array.getD_eq_getD_getElem?, h]; rfl
theorem kal (w : World) (o : Obj) : Keeps w (w.alloc o) := (keeps_refl w).alloc (Nat.le_refl _) o
set_option maxRecDepth 100000 in
set_option maxHeartbeats 4000000 in
theorem names04_any (w : World) : Calls Try.prog 10 #[] w fun e w' => e = .returned (.bool true) ∧ Keeps w w' := by
  go_enter Try.func10, Try.ntmps10
  go_wp2_with fail
  refine wp_region_drawn [19, 20, 21, 22, 23, 24, 25, 26, 27, 28, 29, 30, 31] [[], [], [], [1, 2], [], [], [4, 5], [], [], [8], [0, 3, 6, 7, 9], [10], []] lit04 (by kernel_rfl) (by kernel_rfl) (by kernel_rfl) (by kernel_rfl) (by kernel_rfl) lit04_keeps ?_ ?_
  · refine ⟨?_, ?_, ?_, ?_, ?_, ?_, ?_, ?_, ?_, ?_, ?_, ?_, ?_, trivial⟩
    · intro a w1 vs hk hn K hK
      go_simp
      exact hK _ _ (kal _ _) (matAt_lit w1 [_] [[]] 1 1 rfl (by omega) rfl (fun i hi => match i, hi with | 0, _ => SeqAt.nil _ _))
    · intro a w1 vs hk hn K hK
      go_simp
      exact hK _ _ (kal _ _) (rowAt_lit w1 [1] 1 1 rfl (by omega))
    · intro a w1 vs hk hn K hK
      go_simp
      exact hK _ _ (kal _ _) (rowAt_lit w1 [1, 2] 2 2 rfl (by omega))
    · intro a w1 vs hk hn K hK
      obtain ⟨e1, g1⟩ : a.tmps[20]? = some (vs 1) ∧ RowAt w1.heap (vs 1) [1] := hn 1 (by decide)
      obtain ⟨e2, g2⟩ : a.tmps[21]? = some (vs 2) ∧ RowAt w1.heap (vs 2) [1, 2] := hn 2 (by decide)
      obtain ⟨p1, q1, s1⟩ := seq_shape g1
      obtain ⟨p2, q2, s2⟩ := seq_shape g2
      rw [s1] at e1 g1
      rw [s2] at e2 g2
      clear hn s1 s2
      go_simp
      exact hK _ _ (kal _ _) (matAt_lit w1 [_, _] [[1], [1, 2]] 2 2 rfl (by omega) rfl (fun i hi => match i, hi with | 0, _ => g1 | 1, _ => g2))
    · intro a w1 vs hk hn K hK
      go_simp
      exact hK _ _ (kal _ _) (rowAt_lit w1 [] 0 0 rfl (by omega))
    · intro a w1 vs hk hn K hK
      go_simp
      exact hK _ _ (kal _ _) (rowAt_lit w1 [] 0 0 rfl (by omega))
    · intro a w1 vs hk hn K hK
      obtain ⟨e1, g1⟩ : a.tmps[23]? = some (vs 4) ∧ RowAt w1.heap (vs 4) [] := hn 4 (by decide)
      obtain ⟨e2, g2⟩ : a.tmps[24]? = some (vs 5) ∧ RowAt w1.heap (vs 5) [] := hn 5 (by decide)
      obtain ⟨p1, q1, s1⟩ := seq_shape g1
      obtain ⟨p2, q2, s2⟩ := seq_shape g2
      rw [s1] at e1 g1
      rw [s2] at e2 g2
      clear hn s1 s2
      go_simp
      exact hK _ _ (kal _ _) (matAt_lit w1 [_, _] [[], []] 2 2 rfl (by omega) rfl (fun i hi => match i, hi with | 0, _ => g1 | 1, _ => g2))
    · intro a w1 vs hk hn K hK
      have hm := mk_rows 256 (by omega) w1
      change (Instr.makeSlice _ (.int .i64 256) (.int .i64 256)).run _ _ = _ at hm
      go_simp
      exact hK _ _ (kal _ _) (reps_mat w1 256 (by omega))
    · intro a w1 vs hk hn K hK
      have hm := mk_row 256 (by omega) w1
      change (Instr.makeSlice _ (.int .i64 256) (.int .i64 256)).run _ _ = _ at hm
      go_simp
      exact hK _ _ (kal _ _) (reps_row w1 256 (by omega))
    · intro a w1 vs hk hn K hK
      obtain ⟨e1, g1⟩ : a.tmps[27]? = some (vs 8) ∧ RowAt w1.heap (vs 8) (List.replicate 256 0) := hn 8 (by decide)
      obtain ⟨p1, q1, s1⟩ := seq_shape g1
      rw [s1] at e1 g1
      clear hn s1
      go_simp
      exact hK _ _ (kal _ _) (matAt_lit w1 [_] [List.replicate 256 0] 1 1 rfl (by omega) rfl (fun i hi => match i, hi with | 0, _ => g1))
    · intro a w1 vs hk hn K hK
      obtain ⟨e1, g1⟩ : a.tmps[19]? = some (vs 0) ∧ MatAt w1.heap (vs 0) [[]] := hn 0 (by decide)
      obtain ⟨e2, g2⟩ : a.tmps[22]? = some (vs 3) ∧ MatAt w1.heap (vs 3) [[1], [1, 2]] := hn 3 (by decide)
      obtain ⟨e3, g3⟩ : a.tmps[25]? = some (vs 6) ∧ MatAt w1.heap (vs 6) [[], []] := hn 6 (by decide)
      obtain ⟨e4, g4⟩ : a.tmps[26]? = some (vs 7) ∧ MatAt w1.heap (vs 7) (List.replicate 256 []) := hn 7 (by decide)
      obtain ⟨e5, g5⟩ : a.tmps[28]? = some (vs 9) ∧ MatAt w1.heap (vs 9) [List.replicate 256 0] := hn 9 (by decide)
      obtain ⟨p1, q1, s1⟩ := seq_shape g1
      obtain ⟨p2, q2, s2⟩ := seq_shape g2
      obtain ⟨p3, q3, s3⟩ := seq_shape g3
      obtain ⟨p4, q4, s4⟩ := seq_shape g4
      obtain ⟨p5, q5, s5⟩ := seq_shape g5
      rw [s1] at e1 g1
      rw [s2] at e2 g2
      rw [s3] at e3 g3
      rw [s4] at e4 g4
      rw [s5] at e5 g5
      have G1 := Lib.hid g1
      have G2 := Lib.hid g2
      have G3 := Lib.hid g3
      have G4 := Lib.hid g4
      have G5 := Lib.hid g5
      clear hn s1 s2 s3 s4 s5 g1 g2 g3 g4 g5
      go_simp
      refine hK _ _ (kal _ _) (seqAt_lit w1 _ _ badMs 6 6 rfl (by omega) fun i hi => ?_)
      match i, hi with
      | 0, _ => exact ⟨_, rfl, SeqAt.nil _ _⟩
      | 1, _ => exact ⟨_, rfl, MatAt.al G1.out _⟩
      | 2, _ => exact ⟨_, rfl, MatAt.al G2.out _⟩
      | 3, _ => exact ⟨_, rfl, MatAt.al G3.out _⟩
      | 4, _ => exact ⟨_, rfl, MatAt.al G4.out _⟩
      | 5, _ => exact ⟨_, rfl, MatAt.al G5.out _⟩
    · intro a w1 vs hk hn K hK
      obtain ⟨e1, g1⟩ : a.tmps[29]? = some (vs 10) ∧ MatsAt w1.heap (vs 10) badMs := hn 10 (by decide)
      obtain ⟨p1, q1, s1⟩ := seq_shape g1
      rw [s1] at e1
      change a.tmps[29]? = some (.slice p1 6 q1) at e1
      clear hn s1 g1
      go_simp
      exact hK _ _ (keeps_refl _) rfl
    · intro a w1 vs hk hn K hK
      go_simp
      exact hK _ _ (keeps_refl _) rfl
  intro vs w1 hk hG
  have g1 : MatsAt w1.heap (vs 10) badMs := hG 10 (by decide)
  have g2 : vs 11 = .int .i64 6 := hG 11 (by decide)
  have g3 : vs 12 = .int .i64 0 := hG 12 (by decide)
  have HK := Lib.hid hk
  obtain ⟨px, qx, e9⟩ := seq_shape g1
  rw [e9] at g1
  have e10 : vs 10 = .slice px 6 qx := e9
  simp only [setAll, Nat.zero_add, Nat.reduceAdd, List.setIfInBounds_toArray, List.set_cons_zero, List.set_cons_succ, e10, g2, g3]
  have HB := Lib.hid g1
  clear hG hk g1 g2 g3 e10 e9
  generalize vs 0 = x0
  generalize vs 1 = x1
  generalize vs 2 = x2
  generalize vs 3 = x3
  generalize vs 4 = x4
  generalize vs 5 = x5
  generalize vs 6 = x6
  generalize vs 7 = x7
  generalize vs 8 = x8
  generalize vs 9 = x9
  clear vs
  go_wp2_with fail
  go_loopw [31] (fun i wr => ∃ k : Nat, k ≤ 6 ∧ i = .int .i64 k ∧ Hid (MatsAt wr.heap (.slice px 6 qx) badMs) ∧ Hid (Keeps w wr)) (fun i _ => 6 - (intOf i).toNat)
  case atStart => exact ⟨0, by omega, rfl, HB, HK⟩
  case round =>
    obtain ⟨k, hk, rfl, hB, hK⟩ := hrel
    clear HB HK
    obtain ⟨w0, rfl⟩ : ∃ w0 : World, w0 = wr := ⟨_, rfl⟩
    by_cases hlt : k < 6
    · have hlt64 : (k : Int) < 6 := by omega
      have hk0 : (0 : Int) ≤ (k : Int) := by omega
      have hbl : badMs.length = 6 := rfl
      obtain ⟨t1, t2, t3, t4, t5⟩ := bad_at (k := k) (by omega)
      obtain ⟨a, cap, ea, _, hel⟩ := hB.out
      obtain ⟨b, off, u, eb, cu, hu⟩ := hel k (by omega)
      rw [eb] at ea
      injection ea with ea ea1 ea2
      subst ea ea2
      obtain ⟨pu, qu, rfl⟩ := seq_shape hu
      have c1 : w0.cell? ⟨b, off + k, none⟩ = some (.slice pu badMs[k].length qu) := by rw [cell_of]; exact cu
      have T1 := Lib.hid t1
      have T2 := Lib.hid t2
      have T3 := Lib.hid t3
      have T4 := Lib.hid t4
      have HU := Lib.hid hu
      generalize badMs[k] = m at *
      have hmk := mk_row m.length (by omega)
      clear t1 t2 t3 t4 hel cu hu hbl ea1 eb
      go_wp2_with fail
      refine Calls.mono (gave (turn_any _ m _ HU.out) T1.out) ?_
      rintro e w2 ⟨y1, rfl, _, hk2⟩
      have HU2 := Lib.hid (MatAt.keeps HU.out hk2)
      go_wp2_with fail
      refine Calls.mono (gaveI (rank_any _ m _ HU2.out) T2.out) ?_
      rintro e w3 ⟨rfl, hk3⟩
      have HU3 := Lib.hid (MatAt.keeps HU2.out hk3)
      go_wp2_with fail
      refine Calls.mono (gave (sdown_any _ m _ HU3.out) T3.out) ?_
      rintro e w4 ⟨y2, rfl, _, hk4⟩
      have HU4 := Lib.hid (MatAt.keeps HU3.out hk4)
      go_wp2_with fail
      refine Calls.mono (gaveR (solve_any _ _ m _ _ (HU4.out.al _) (reps_row w4 m.length (by omega))) (T4.out _)) ?_
      rintro e w5 ⟨y3, rfl, _, hk5⟩
      have hks : Keeps w0 w5 := Keeps.trans (Keeps.trans (Keeps.trans (Keeps.trans hk2 hk3) hk4) (kal _ _)) hk5
      have hB5 : Hid (MatsAt w5.heap (.slice (some ⟨b, off, none⟩) 6 qx) badMs) := MatsAt.keeps hB.out hks
      have hK5 : Hid (Keeps w w5) := hK.out.call hks (Nat.le_refl _)
      clear hk2 hk3 hk4 hk5 hks hmk c1
      go_wp2_with fail
      exact ⟨⟨k + 1, by omega, by go_num, hB5, hK5⟩, by simp [intOf]; omega⟩
    · obtain rfl : k = 6 := by omega
      have HK := hK
      clear hB hK
      go_wp2_with fail
      refine Calls.mono (gave (turn_any _ [[1, 2]] _ (mat1_lit w0 [1, 2] 2 rfl (by omega))) ex_n1) ?_
      rintro e w2 ⟨y1, rfl, _, hk⟩
      have HK := Lib.hid (HK.out.call (Keeps.trans (Keeps.al (Keeps.al (keeps_refl _) _) _) hk) (Nat.le_refl _))
      clear hk
      go_wp2_with fail
      refine Calls.mono (gaveR (solve_any _ _ [[1]] [] _ (mat1_lit w2 [1] 1 rfl (by omega)) (SeqAt.nil _ _)) ex_n2) ?_
      rintro e w3 ⟨y2, rfl, _, hk⟩
      have HK := Lib.hid (HK.out.call (Keeps.trans (Keeps.al (Keeps.al (keeps_refl _) _) _) hk) (Nat.le_refl _))
      clear hk
      go_wp2_with fail
      refine Calls.mono (gaveR (solve_any _ _ [[0]] [1] _ (MatAt.al (mat1_lit w3 [0] 1 rfl (by omega)) _) (SeqAt.there (rowAt_lit _ [1] 1 1 rfl (by omega)) (by simp))) ex_n3) ?_
      rintro e w4 ⟨y3, rfl, _, hk⟩
      have HK := Lib.hid (HK.out.call (Keeps.trans (Keeps.al (Keeps.al (Keeps.al (keeps_refl _) _) _) _) hk) (Nat.le_refl _))
      clear hk
      go_wp2_with fail
      refine Calls.mono (gave (sdown_any _ [[0, 0, 3], [0, 2, 0], [0, 4, 1]] _ (mat3_lit w4 [0, 0, 3] [0, 2, 0] [0, 4, 1] 3 3 3 rfl rfl rfl (by omega) (by omega) (by omega))) ex_n4) ?_
      rintro e w5 ⟨y4, rfl, hm, hk⟩
      have HK := Lib.hid (HK.out.call (Keeps.trans (Keeps.al (Keeps.al (Keeps.al (Keeps.al (keeps_refl _) _) _) _) _) hk) (Nat.le_refl _))
      have HM := Lib.hid hm.at_
      clear hk hm
      go_wp2_with fail
      refine Calls.mono (same04_yes _ _ [[0, 1, 0], [0, 0, 1], [0, 0, 0]] _ ((((HM.out.al _).al _).al _).al _) (mat3_lit w5 [0, 1, 0] [0, 0, 1] [0, 0, 0] 3 3 3 rfl rfl rfl (by omega) (by omega) (by omega))) ?_
      rintro e w6 ⟨rfl, hk⟩
      have HK := Lib.hid (HK.out.call (Keeps.trans (Keeps.al (Keeps.al (Keeps.al (Keeps.al (keeps_refl _) _) _) _) _) hk) (Nat.le_refl _))
      clear hk
      go_wp2_with fail
      refine Calls.mono (awake_any _) ?_
      rintro e w7 ⟨rfl, hk⟩
      have HK := Lib.hid (HK.out.call hk (Nat.le_refl _))
      go_wp2
      go_ret
      exact ⟨rfl, HK.out⟩
end Go.Proofs.Ytojdodbedemkoaa
