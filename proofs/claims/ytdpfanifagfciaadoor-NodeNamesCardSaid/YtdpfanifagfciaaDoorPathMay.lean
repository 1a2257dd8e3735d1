/- The walk of strings.SplitSeq, and of path.May. -/
import Derived.Test.YtdpfanifagfciaaDoorBase
import Derived.Test.YtdpfanifagfciaaDoorSplitIt
namespace Go.Proofs.YtdpfanifagfciaaDoor
open Go.RowKit Go.Shelf
set_option maxRecDepth 100000 in
set_option maxHeartbeats 1000000 in
theorem splitseq0_any (p sep : ByteArray) (w : World) : Calls Tryd.prog 72 #[.string p, .string sep, .int .i64 0] w fun e w' =>
    e = .returned (.func (.func 81) #[] #[.pointer (some ⟨w.heap.size + 1, 0, none⟩), .pointer (some ⟨w.heap.size, 0, none⟩), .pointer (some ⟨w.heap.size + 2, 0, none⟩)]) ∧ w' = ((w.alloc (.cells #[.string p] 9)).alloc (.cells #[.string sep] 9)).alloc (.cells #[.int .i64 0] 3) := by
  go_enter Tryd.func72, Tryd.ntmps72
  go_wp2
  go_ret
  exact ⟨by first | rfl | simp, rfl⟩
set_option maxRecDepth 100000 in
set_option maxHeartbeats 1000000 in
theorem splitseq_any (p sep : ByteArray) (w : World) : Calls Tryd.prog 56 #[.string p, .string sep] w fun e w' =>
    e = .returned (.func (.func 81) #[] #[.pointer (some ⟨w.heap.size + 1, 0, none⟩), .pointer (some ⟨w.heap.size, 0, none⟩), .pointer (some ⟨w.heap.size + 2, 0, none⟩)]) ∧ w' = ((w.alloc (.cells #[.string p] 9)).alloc (.cells #[.string sep] 9)).alloc (.cells #[.int .i64 0] 3) := by
  go_enter Tryd.func56, Tryd.ntmps56
  go_wp2_with fail
  refine Calls.mono (splitseq0_any p sep _) ?_
  rintro e w1 ⟨rfl, rfl⟩
  go_wp2
  go_ret
  exact ⟨rfl, rfl⟩
theorem cellA {W : World} {a : Addr} {v : Value} (o : Obj) (h : W.cell? a = some v) : (W.alloc o).cell? a = some v := cell_kept h (World.grownBy_alloc W o none) (fun r e => by cases e)
theorem frozA {W : World} {a : Addr} {v : Value} (o : Obj) (h : W.cell? a = some v) (hf : W.frozen? a = false) : (W.alloc o).frozen? a = false := (frozen_kept h (World.grownBy_alloc W o none) (fun r e => by cases e)).trans hf
theorem boxA {W : World} {B : Nat} {v : Value} {t : TypeId} (h : W.heap[B]? = some (.cells #[v] t)) : W.cell? ⟨B, 0, none⟩ = some v ∧ W.frozen? ⟨B, 0, none⟩ = false := by
  constructor <;> simp [World.cell?, World.frozen?, h]
theorem newA (W : World) (v : Value) (t : TypeId) : (W.alloc (.cells #[v] t)).cell? ⟨W.heap.size, 0, none⟩ = some v ∧ (W.alloc (.cells #[v] t)).frozen? ⟨W.heap.size, 0, none⟩ = false := boxA (World.alloc_heap_new W _)
theorem cell_box {W W' : World} {row : Option Nat} {b : Nat} {a : Addr} {v : Value} (h : W.cell? a = some v) (hg : W.grownBy W' row) (hr : ∀ r, row = some r → r = b) (hne : a.block ≠ b) : W'.cell? a = some v :=
  (World.cell?_of_block (w := W) (hg.block a.block (World.block_lt_of_cell? _ _ h) (fun e => hne (hr _ e.symm)))).trans h
theorem froz_box {W W' : World} {row : Option Nat} {b : Nat} {a : Addr} {v : Value} (h : W.cell? a = some v) (hg : W.grownBy W' row) (hr : ∀ r, row = some r → r = b) (hne : a.block ≠ b) (hf : W.frozen? a = false) : W'.frozen? a = false :=
  (World.frozen?_of_block (w := W) (hg.block a.block (World.block_lt_of_cell? _ _ h) (fun e => hne (hr _ e.symm)))).trans hf
theorem others_of {W W' : World} (h : Below W.heap.size W W') : KeepsOthers W W' := ⟨h.size, fun k o hk _ => (h.block k (Array.getElem?_eq_some_iff.1 hk).1).trans hk⟩
attribute [local go_sem] Oper.semAt_some
set_option maxRecDepth 100000 in
set_option maxHeartbeats 2000000 in
theorem may_in (st : ByteArray → Bool) (hStep : ∀ (s : ByteArray) (W : World), Calls Tryd.prog 57 #[.string s] W fun e W' => e = .returned (.bool (st s)) ∧ Below W.heap.size W W')
    (hIdx : ∀ (t : ByteArray) (W : World), Calls Tryd.prog 79 #[.string t, .string ⟨#[47]⟩] W fun e W' => e = .returned (.int .i64 (Lib.indexByte t.data.toList 47)) ∧ W' = W)
    (p : ByteArray) (w : World) : Calls Tryd.prog 24 #[.string p] w fun e w' => e = .returned (.bool (decide (p.size ≤ 96) && ((cutP p.data.toList).map pB).all st)) ∧ Below w.heap.size w w' := by
  refine (callsIn_wide (n := 9)).1 ?_
  refine callsIn_of_wp_marks Tryd.func24 rfl trivial ?_ rfl
  simp only [Tryd.ntmps24, List.size_toArray, List.length_cons, List.length_nil, Nat.reduceAdd, Nat.reduceSub, Array.replicate_succ, Array.replicate_zero, List.push_toArray, List.append_toArray, List.nil_append, List.cons_append]
  by_cases hlong : 96 < p.size
  · have h64 : (96 : Int) < (p.size : Int) := by omega
    gi_wp2
    refine ⟨.bool false, ?_, by rw [decide_eq_false (by omega)]; rfl, (Below.refl _ w).alloc (Nat.le_refl _) _⟩
    have hc5 := (cell_one_new w (.bool false) 4)
    simp [results, Tryd.f24, go_sem]
  · have h64 : ¬ (96 : Int) < (p.size : Int) := by omega
    gi_wp2
    refine ⟨trivial, (callsIn_wide.2 (splitseq_any _ _ _)).mono ?_⟩
    rintro e w' ⟨rfl, rfl⟩
    gi_wp2
    have c0 := newA w (.bool false) 4
    have c1 := newA (w.alloc (.cells #[.bool false] 4)) (.string p) 9
    have c2 := newA ((w.alloc (.cells #[.bool false] 4)).alloc (.cells #[.string p] 9)) (.string ⟨#[47]⟩) 9
    have c3 := newA (((w.alloc (.cells #[.bool false] 4)).alloc (.cells #[.string p] 9)).alloc (.cells #[.string ⟨#[47]⟩] 9)) (.int .i64 0) 3
    simp only [World.size_alloc] at c1 c2 c3
    have hB0 : Below w.heap.size w ((((w.alloc (.cells #[.bool false] 4)).alloc (.cells #[.string p] 9)).alloc (.cells #[.string ⟨#[47]⟩] 9)).alloc (.cells #[.int .i64 0] 3)) := ((((Below.refl _ w).alloc (Nat.le_refl _) _).alloc (by simp) _).alloc (by simp; omega) _).alloc (by simp; omega) _
    have hps : pB p.data.toList = p := rfl
    refine wpIn_range_box (b := w.heap.size + 1) (enc := fun x : ByteArray => .string x) (Kp := Below (w.heap.size + 4)) (S := fun xs => xs = (cutP p.data.toList).map pB) (Sp := fun pre => pre <+: (cutP p.data.toList).map pB) (N := (cutP p.data.toList).length) (w0 := (((w.alloc (.cells #[.bool false] 4)).alloc (.cells #[.string p] 9)).alloc (.cells #[.string ⟨#[47]⟩] 9)).alloc (.cells #[.int .i64 0] 3))
      rfl (by omega) (gf := 81) (lb := #[.pointer (some ⟨w.heap.size + 1 + 1, 0, none⟩), .pointer (some ⟨w.heap.size + 1, 0, none⟩), .pointer (some ⟨w.heap.size + 1 + 2, 0, none⟩)]) (by first | rfl | simp) trivial (enters_of Tryd.func81 (by kernel_rfl) rfl)
      (fun l J Jx W hW hJ _ hY h0 => split1_in _ (by omega) hIdx l (w.heap.size + 1) (w.heap.size + 4) (by omega) p.data.toList (by rw [show p.data.toList.length = p.size from rfl]; omega) J Jx hJ hY W
        ((hW.cell (p := ⟨w.heap.size + 1, 0, none⟩) (by first | (simp; done) | (simp; omega))).trans (cellA _ (cellA _ c1.1))) ((hW.cell (p := ⟨w.heap.size + 1 + 1, 0, none⟩) (by first | (simp; done) | (simp; omega))).trans (cellA _ c2.1)) ((hW.cell (p := ⟨w.heap.size + 1 + 2, 0, none⟩) (by first | (simp; done) | (simp; omega))).trans c3.1) ((hW.frozen (p := ⟨w.heap.size + 1, 0, none⟩) (by first | (simp; done) | (simp; omega))).trans (frozA _ (cellA _ c1.1) (frozA _ c1.1 c1.2))) h0)
      (by first | (simp; done) | (simp; omega)) belowK_t (belowK_b (by first | (simp; done) | (simp; omega))) (Below.refl _ _) rfl
      (fun pre W => (∀ y ∈ pre, st y = true) ∧ W.cell? ⟨w.heap.size, 0, none⟩ = some (.bool false) ∧ W.frozen? ⟨w.heap.size, 0, none⟩ = false ∧ w.heap.size + 4 ≤ W.heap.size ∧ Below w.heap.size w W)
      (fun pre W => (∃ y ∈ pre, st y = false) ∧ W.cell? ⟨w.heap.size, 0, none⟩ = some (.bool false) ∧ Below w.heap.size w W)
      (fun s A B row hs hg hr => ⟨hs.1, cell_kept hs.2.1 hg (fun r e => (hr r e).2), (frozen_kept hs.2.1 hg (fun r e => (hr r e).2)).trans hs.2.2.1, Nat.le_trans hs.2.2.2.1 hg.size, hs.2.2.2.2.grown hg (by have := hs.2.2.2.1; omega) (fun k e => by have := (hr k e).1; simp at this; omega)⟩)
      (fun s A B row hs hg hr => ⟨hs.1, cell_kept hs.2.1 hg (fun r e => (hr r e).2), hs.2.2.grown hg hs.2.2.size (fun k e => by have := (hr k e).1; simp at this; omega)⟩)
      (fun s A B row hs hg hr => ⟨hs.1, cell_box hs.2.1 hg hr (by simp), froz_box hs.2.1 hg hr (by simp) hs.2.2.1, Nat.le_trans hs.2.2.2.1 hg.size, hs.2.2.2.2.grown hg (by have := hs.2.2.2.1; omega) (fun k e => by have := hr k e; omega)⟩)
      (fun s A B row hs hg hr => ⟨hs.1, cell_box hs.2.1 hg hr (by simp), hs.2.2.grown hg hs.2.2.size (fun k e => by have := hr k e; omega)⟩)
      ⟨by simp, cellA _ (cellA _ (cellA _ c0.1)), frozA _ (cellA _ (cellA _ c0.1)) (frozA _ (cellA _ c0.1) (frozA _ c0.1 c0.2)), by simp, hB0⟩
      (fun x => { tmps := #[.string p, undef, .pointer (some ⟨w.heap.size, 0, none⟩), .string x, .string p, .int .i64 (p.size : Int), .bool false, .string p, .func (.func 81) #[] #[.pointer (some ⟨w.heap.size + 1 + 1, 0, none⟩), .pointer (some ⟨w.heap.size + 1, 0, none⟩), .pointer (some ⟨w.heap.size + 1 + 2, 0, none⟩)], .string x, undef, undef, undef], defers := [] }) ?assign ?body ?done ?stop
    case assign =>
      intro l x W K hK
      gi_wp2
      exact hK
    case body =>
      rintro l pre x W ⟨hp, hc, hf, hsz, hB⟩ _
      gi_wp2
      refine ⟨trivial, (CallsIn.inRound l (callsIn_wide.2 (hStep x W))).mono ?_⟩
      rintro e W2 ⟨rfl, hk⟩
      have hlt := World.block_lt_of_cell? _ _ hc
      have hc2 : W2.cell? ⟨w.heap.size, 0, none⟩ = some (.bool false) := (hk.cell (p := ⟨w.heap.size, 0, none⟩) hlt).trans hc
      have hf2 : W2.frozen? ⟨w.heap.size, 0, none⟩ = false := (hk.frozen (p := ⟨w.heap.size, 0, none⟩) hlt).trans hf
      have hB2 : Below w.heap.size w W2 := hB.trans (hk.mono hB.size)
      cases hst : st x with
      | true =>
        gi_wp2
        exact ⟨others_of hk, hk.mono hsz, fun y hy => (List.mem_append.1 hy).elim (hp y) (fun e => by simp at e; rw [e]; exact hst), hc2, hf2, Nat.le_trans hsz hk.size, hB2⟩
      | false =>
        gi_wp2
        exact ⟨(others_of hk).trans (KeepsOthers.setCell _ _ _), ⟨x, by simp, hst⟩, World.cell?_setCell_same' _ _ _ (by rw [hc2]; rfl), hB2.setCell (p := ⟨w.heap.size, 0, none⟩) (Nat.le_refl _) _⟩
    case done =>
      rintro D ys W hD rfl ⟨hall, hcr, hfr, _, hB⟩ hK
      gi_wp2
      have hK' := (KeepsOthers.setCell W ⟨w.heap.size, 0, none⟩ (.bool true)).same D _ hK rfl
      refine ⟨by simp, .inl ⟨_, _, rfl, run_takeDeferred hK', ?_⟩⟩
      have hc5 := cell_kept (World.cell?_setCell_same' W ⟨w.heap.size, 0, none⟩ (.bool true) (by rw [hcr]; rfl)) (grownBy_putObj' _ D (.deferred none)) (fun r e => by cases e; exact ⟨_, hK', rfl⟩)
      refine ⟨.bool true, ?_, by rw [decide_eq_true (by omega), List.all_eq_true.2 hall]; rfl, (hB.setCell (p := ⟨w.heap.size, 0, none⟩) (Nat.le_refl _) _).trans (belowK_b (w := w) (Nat.le_refl _) _ D _ _ (by simp at hD; omega) hK' rfl rfl)⟩
      simp [results, Tryd.f24, go_sem, hc5]
    case stop =>
      rintro D pre W hD hpre ⟨⟨y, hy, hst⟩, hcr, hB⟩ hK
      gi_wp2
      refine ⟨by simp, .inl ⟨_, _, rfl, run_takeDeferred hK, ?_⟩⟩
      have hc5 := cell_kept hcr (grownBy_putObj' _ D (.deferred none)) (fun r e => by cases e; exact ⟨_, hK, rfl⟩)
      have hno : ((cutP p.data.toList).map pB).all st = false := by
        rw [List.all_eq_false]
        exact ⟨y, hpre.subset hy, by rw [hst]; simp⟩
      refine ⟨.bool false, ?_, by rw [hno, Bool.and_false], hB.trans (belowK_b (w := w) (Nat.le_refl _) W D _ _ (by simp at hD; omega) hK rfl rfl)⟩
      simp [results, Tryd.f24, go_sem, hc5]
end Go.Proofs.YtdpfanifagfciaaDoor
