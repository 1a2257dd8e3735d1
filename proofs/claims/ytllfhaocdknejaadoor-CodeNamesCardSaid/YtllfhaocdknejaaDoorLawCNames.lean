/- The walk of the law CodeNames. -/
import Derived.Test.YtllfhaocdknejaaDoorCodeWk
import Derived.Test.YtllfhaocdknejaaDoorCNamesM
import Derived.Great.BuildSlice
import Derived.Deep.Cut
import Derived.Deep.WholeRow
namespace Go.Proofs.YtllfhaocdknejaaDoor
open Go.RowKit
attribute [local go_sem ↓] Go.wp_at_zero Go.wp_at_succ
theorem enc_row_length {K N : Nat} {d : List UInt8} {i : Nat} (hi : i < N) : ((encM K N d).getD i []).length = sizeN K d.length := by rw [encM_row hi]; simp
def RowH (w : World) (g : Nat) (cs : Array Value) (T : TypeId) : Prop := w.heap[g]? = some (.cells cs T (0, 0))
theorem RowH.keeps {w w' : World} {g : Nat} {cs : Array Value} {T : TypeId} (h : RowH w g cs T) (k : Keeps w w') : RowH w' g cs T := (k.2.2.2.2 g (Array.getElem?_eq_some_iff.1 h).1).trans h
/-- The slices of a row of the table read as its lists. -/
def RecOk (w : World) (a b : Value) (r : Rec5) : Prop := SeqAt IsInt w.heap a r.hv ∧ TextsAt w.heap b r.ps ∧ CapOk a ∧ CapOk b
theorem RecOk.keeps {w w' : World} {a b : Value} {r : Rec5} (h : RecOk w a b r) (k : Keeps w w') : RecOk w' a b r := ⟨SeqAt.keeps h.1 k, SeqAt.keeps h.2.1 k, h.2.2⟩
def RecIs (w : World) (v : Value) (r : Rec5) : Prop := ∃ a b, v = .agg #[.int .i64 r.k, .int .i64 r.n, a, b, .int .i64 r.e] ∧ RecOk w a b r
theorem RecIs.keeps {w w' : World} {v : Value} {r : Rec5} (h : RecIs w v r) (k : Keeps w w') : RecIs w' v r := let ⟨a, b, e, h⟩ := h; ⟨a, b, e, h.keeps k⟩
def AllRec (w : World) : List Rec5 → List (Value × Value) → Prop
  | [], [] => True
  | r :: T, p :: vs => RecOk w p.1 p.2 r ∧ AllRec w T vs
  | _, _ => False
theorem AllRec.keeps {w w' : World} (k : Keeps w w') : ∀ {T : List Rec5} {vs : List (Value × Value)}, AllRec w T vs → AllRec w' T vs
  | [], [], _ => trivial
  | _ :: _, _ :: _, h => ⟨h.1.keeps k, AllRec.keeps k h.2⟩
def recV (r : Rec5) (p : Value × Value) : List Value := [.int .i64 r.k, .int .i64 r.n, p.1, p.2, .int .i64 r.e]
def tabA : List Rec5 → List (Value × Value) → List Value
  | r :: T, p :: vs => recV r p ++ tabA T vs
  | _, _ => []
theorem rec_at {w : World} : ∀ {T : List Rec5} {vs : List (Value × Value)}, AllRec w T vs → ∀ j (h : j < T.length), ∃ a b, (∀ q, q < 5 → (tabA T vs)[j * 5 + q]? = (recV T[j] (a, b))[q]?) ∧ RecOk w a b T[j]
  | [], _, _, j, h => absurd h (by simp)
  | _ :: _, [], h0, _, _ => h0.elim
  | r :: T, p :: vs, h0, j, h => by
    cases j with
    | zero => exact ⟨p.1, p.2, fun q hq => by rw [Nat.zero_mul, Nat.zero_add]; show (recV r p ++ tabA T vs)[q]? = _; rw [List.getElem?_append_left (by show q < 5; exact hq)]; rfl, h0.1⟩
    | succ j =>
      obtain ⟨a, b, h1, h2⟩ := rec_at h0.2 j (by simp at h; omega)
      refine ⟨a, b, fun q hq => ?_, h2⟩
      show (recV r p ++ tabA T vs)[(j + 1) * 5 + q]? = _
      have hl : (recV r p).length = 5 := rfl
      rw [List.getElem?_append_right (by rw [hl]; omega), hl, show (j + 1) * 5 + q - 5 = j * 5 + q by omega]
      exact h1 q hq
def TabIs (w : World) (B : Nat) (T : List Rec5) : Prop := ∃ vs, AllRec w T vs ∧ RowH w B ⟨tabA T vs⟩ 40
theorem TabIs.keeps {w w' : World} {B : Nat} {T : List Rec5} (h : TabIs w B T) (k : Keeps w w') : TabIs w' B T := let ⟨vs, h1, h2⟩ := h; ⟨vs, h1.keeps k, h2.keeps k⟩
theorem TabIs.cell {w : World} {B : Nat} {T : List Rec5} (h : TabIs w B T) {j : Nat} (hj : j < T.length) : ∃ a b, (∀ q, q < 5 → w.cell? ⟨B, j * 5 + q, none⟩ = (recV T[j] (a, b))[q]?) ∧ RecOk w a b T[j] := by
  obtain ⟨vs, h1, h2⟩ := h
  obtain ⟨a, b, h3, h4⟩ := rec_at h1 j hj
  refine ⟨a, b, fun q hq => ?_, h4⟩
  rw [cell_of_row w B (j * 5 + q) _ _ _ h2, ← h3 q hq]
  rw [← Array.getElem?_toList]
def tabC (a0 b0 a1 b1 a2 b2 a3 b3 a4 b4 a5 b5 a6 b6 a7 b7 a8 b8 a9 b9 a10 b10 a11 b11 a12 b12 a13 b13 a14 b14 a15 b15 a16 b16 a17 b17 a18 b18 a19 b19 a20 b20 : Value) : Array Value := #[.int .i64 3, .int .i64 2, a0, b0, .int .i64 1, .int .i64 2, .int .i64 3, a1, b1, .int .i64 1, .int .i64 2, .int .i64 3, a2, b2, .int .i64 1, .int .i64 2, .int .i64 3, a3, b3, .int .i64 1, .int .i64 2, .int .i64 3, a4, b4, .int .i64 54, .int .i64 2, .int .i64 3, a5, b5, .int .i64 54, .int .i64 2, .int .i64 3, a6, b6, .int .i64 4, .int .i64 2, .int .i64 3, a7, b7, .int .i64 4, .int .i64 2, .int .i64 3, a8, b8, .int .i64 4, .int .i64 2, .int .i64 3, a9, b9, .int .i64 4, .int .i64 2, .int .i64 3, a10, b10, .int .i64 4, .int .i64 2, .int .i64 3, a11, b11, .int .i64 4, .int .i64 2, .int .i64 3, a12, b12, .int .i64 4, .int .i64 2, .int .i64 3, a13, b13, .int .i64 4, .int .i64 2, .int .i64 3, a14, b14, .int .i64 4, .int .i64 2, .int .i64 3, a15, b15, .int .i64 4, .int .i64 2, .int .i64 3, a16, b16, .int .i64 0, .int .i64 2, .int .i64 3, a17, b17, .int .i64 0, .int .i64 2, .int .i64 3, a18, b18, .int .i64 0, .int .i64 2, .int .i64 3, a19, b19, .int .i64 4, .int .i64 2, .int .i64 3, a20, b20, .int .i64 4]
set_option maxRecDepth 100000 in
theorem bs_tab (a0 b0 a1 b1 a2 b2 a3 b3 a4 b4 a5 b5 a6 b6 a7 b7 a8 b8 a9 b9 a10 b10 a11 b11 a12 b12 a13 b13 a14 b14 a15 b15 a16 b16 a17 b17 a18 b18 a19 b19 a20 b20 : Value) (w : World) : (Instr.buildSlice 41 21 #[(0, .agg #[.int .i64 3, .int .i64 2, a0, b0, .int .i64 1]), (1, .agg #[.int .i64 2, .int .i64 3, a1, b1, .int .i64 1]), (2, .agg #[.int .i64 2, .int .i64 3, a2, b2, .int .i64 1]), (3, .agg #[.int .i64 2, .int .i64 3, a3, b3, .int .i64 1]), (4, .agg #[.int .i64 2, .int .i64 3, a4, b4, .int .i64 54]), (5, .agg #[.int .i64 2, .int .i64 3, a5, b5, .int .i64 54]), (6, .agg #[.int .i64 2, .int .i64 3, a6, b6, .int .i64 4]), (7, .agg #[.int .i64 2, .int .i64 3, a7, b7, .int .i64 4]), (8, .agg #[.int .i64 2, .int .i64 3, a8, b8, .int .i64 4]), (9, .agg #[.int .i64 2, .int .i64 3, a9, b9, .int .i64 4]), (10, .agg #[.int .i64 2, .int .i64 3, a10, b10, .int .i64 4]), (11, .agg #[.int .i64 2, .int .i64 3, a11, b11, .int .i64 4]), (12, .agg #[.int .i64 2, .int .i64 3, a12, b12, .int .i64 4]), (13, .agg #[.int .i64 2, .int .i64 3, a13, b13, .int .i64 4]), (14, .agg #[.int .i64 2, .int .i64 3, a14, b14, .int .i64 4]), (15, .agg #[.int .i64 2, .int .i64 3, a15, b15, .int .i64 4]), (16, .agg #[.int .i64 2, .int .i64 3, a16, b16, .int .i64 0]), (17, .agg #[.int .i64 2, .int .i64 3, a17, b17, .int .i64 0]), (18, .agg #[.int .i64 2, .int .i64 3, a18, b18, .int .i64 0]), (19, .agg #[.int .i64 2, .int .i64 3, a19, b19, .int .i64 4]), (20, .agg #[.int .i64 2, .int .i64 3, a20, b20, .int .i64 4])]).run Tryd.prog w = .ok (.slice (some ⟨w.heap.size, 0, none⟩) 21 21) (w.alloc (.cells (tabC a0 b0 a1 b1 a2 b2 a3 b3 a4 b4 a5 b5 a6 b6 a7 b7 a8 b8 a9 b9 a10 b10 a11 b11 a12 b12 a13 b13 a14 b14 a15 b15 a16 b16 a17 b17 a18 b18 a19 b19 a20 b20) 40)) :=
  run_buildSlice w 41 40 21 _ (tabC a0 b0 a1 b1 a2 b2 a3 b3 a4 b4 a5 b5 a6 b6 a7 b7 a8 b8 a9 b9 a10 b10 a11 b11 a12 b12 a13 b13 a14 b14 a15 b15 a16 b16 a17 b17 a18 b18 a19 b19 a20 b20) _ _ Tryd.underlying41 rfl rfl (by decide) (by decide) (by kernel_rfl)
theorem tab_new (w : World) (l0 l1 l2 : ByteArray) (a0 b0 a1 b1 a2 b2 a3 b3 a4 b4 a5 b5 a6 b6 a7 b7 a8 b8 a9 b9 a10 b10 a11 b11 a12 b12 a13 b13 a14 b14 a15 b15 a16 b16 a17 b17 a18 b18 a19 b19 a20 b20 : Value) (h : AllRec (w.alloc (.cells (tabC a0 b0 a1 b1 a2 b2 a3 b3 a4 b4 a5 b5 a6 b6 a7 b7 a8 b8 a9 b9 a10 b10 a11 b11 a12 b12 a13 b13 a14 b14 a15 b15 a16 b16 a17 b17 a18 b18 a19 b19 a20 b20) 40)) (tabN l0 l1 l2) [(a0, b0), (a1, b1), (a2, b2), (a3, b3), (a4, b4), (a5, b5), (a6, b6), (a7, b7), (a8, b8), (a9, b9), (a10, b10), (a11, b11), (a12, b12), (a13, b13), (a14, b14), (a15, b15), (a16, b16), (a17, b17), (a18, b18), (a19, b19), (a20, b20)]) : TabIs (w.alloc (.cells (tabC a0 b0 a1 b1 a2 b2 a3 b3 a4 b4 a5 b5 a6 b6 a7 b7 a8 b8 a9 b9 a10 b10 a11 b11 a12 b12 a13 b13 a14 b14 a15 b15 a16 b16 a17 b17 a18 b18 a19 b19 a20 b20) 40)) w.heap.size (tabN l0 l1 l2) :=
  ⟨_, h, heap_alloc_new w _⟩
def recA (k n : Int) (a b : Value) (e : Int) : Array Value := #[.int .i64 k, .int .i64 n, a, b, .int .i64 e]
theorem recA_one (k n : Int) (p q : Option Addr) (m m' c c' : Nat) (e : Int) : (recA k n (.slice p m c) (.slice q m' c') e).all (·.oneCell') = true :=
  Array.all_eq_true_iff_forall_mem.2 fun v hv => by
    have hv' : v ∈ (recA k n (.slice p m c) (.slice q m' c') e).toList := by simpa using hv
    simp only [recA, List.mem_cons, List.not_mem_nil, or_false] at hv'
    rcases hv' with rfl | rfl | rfl | rfl | rfl <;> rfl
theorem okR_out {l2 : ByteArray} {k n : Int} {hv : List Int} {ps : List ByteArray} {e : Int} (h : okR l2 ⟨k, n, hv, ps, e⟩ = true) :
    errD k n hv ps = e ∧ decide (strB ((gotD k n hv ps).getD []) = ⟨#[97, 98, 99]⟩) = decide (e = 0) ∧ (rebD k n hv ps 2).2 = e ∧ decide ((rebD k n hv ps 2).1 = l2) = decide (e = 0) ∧ (∀ p ∈ ps, p.size ≤ 1000000) ∧ ∀ x ∈ hv, inI x := by
  unfold okR at h
  simp only [Bool.and_eq_true] at h
  obtain ⟨⟨⟨⟨⟨x1, x2⟩, x3⟩, x4⟩, x5⟩, x6⟩ := h
  refine ⟨of_decide_eq_true x1, eq_of_beq x2, of_decide_eq_true x3, eq_of_beq x4, fun p hp => ?_, fun x hx => ?_⟩
  · have := of_decide_eq_true (List.all_eq_true.1 x5 p hp); omega
  · have := of_decide_eq_true (List.all_eq_true.1 x6 x hx)
    exact ⟨by omega, by omega⟩
theorem SeqAt.rear {α : Type} {R : Value → α → Prop} {h : Array Obj} {b o n c k n' c' : Nat} {l : List α} (s : SeqAt R h (.slice (some ⟨b, o, none⟩) n c) l) (hk : k ≤ l.length) (hn : n' = l.length - k) : SeqAt R h (.slice (some ⟨b, o + k, none⟩) n' c') (l.drop k) := by
  obtain ⟨a, cap, e, hl, hel⟩ := s
  injection e with e1 e2 e3
  subst e1
  have hlt : (l.drop k).length = n' := by rw [List.length_drop, hn]
  refine ⟨_, c', by rw [hlt], by omega, fun i hi => ?_⟩
  rw [hlt] at hi
  obtain ⟨bi, oi, u, ei, ci, ri⟩ := hel (k + i) (by omega)
  injection ei with ei
  injection ei with ei1 ei2
  subst ei1 ei2
  exact ⟨b, o + k, u, rfl, by rw [Nat.add_assoc]; exact ci, by rw [List.getElem_drop]; exact ri⟩
def cn18 (bc bb bl ol ql : Nat) (l0 l1 l2 : ByteArray) : Nat → Value → World → Prop
  | 1, v, w => ∃ B, v = .slice (some ⟨B, 0, none⟩) 2 2 ∧ SeqAt IsInt w.heap v [0, 1]
  | 4, v, w => RecIs w v ⟨3, 2, [0, 1], [l0, l1], 1⟩
  | 6, v, w => ∃ B, v = .slice (some ⟨B, 0, none⟩) 1 1 ∧ SeqAt IsInt w.heap v [0]
  | 9, v, w => RecIs w v ⟨2, 3, [0], [l0, l1], 1⟩
  | 11, v, w => ∃ B, v = .slice (some ⟨B, 0, none⟩) 2 2 ∧ SeqAt IsInt w.heap v [0, 3]
  | 14, v, w => RecIs w v ⟨2, 3, [0, 3], [l0, l1], 1⟩
  | 16, v, w => ∃ B, v = .slice (some ⟨B, 0, none⟩) 2 2 ∧ SeqAt IsInt w.heap v [(-1), 0]
  | 19, v, w => RecIs w v ⟨2, 3, [(-1), 0], [l0, l1], 1⟩
  | 21, v, w => RecIs w v ⟨2, 3, [], [], 54⟩
  | 23, v, w => ∃ B, v = .slice (some ⟨B, 0, none⟩) 1 1 ∧ SeqAt IsInt w.heap v [2]
  | 26, v, w => RecIs w v ⟨2, 3, [2], [l2], 54⟩
  | 28, v, w => ∃ B, v = .slice (some ⟨B, 0, none⟩) 2 2 ∧ SeqAt IsInt w.heap v [0, 1]
  | 36, v, w => ∃ B, v = .slice (some ⟨B, 0, none⟩) 2 2 ∧ TextsAt w.heap v [l0, (l1 ++ (⟨#[0]⟩ : ByteArray))]
  | 37, v, w => RecIs w v ⟨2, 3, [0, 1], [l0, (l1 ++ (⟨#[0]⟩ : ByteArray))], 4⟩
  | 39, v, w => ∃ B, v = .slice (some ⟨B, 0, none⟩) 2 2 ∧ SeqAt IsInt w.heap v [0, 1]
  | 40, v, w => ∃ B, v = .slice (some ⟨B, 0, none⟩) 2 2 ∧ TextsAt w.heap v [⟨#[]⟩, ⟨#[]⟩]
  | 41, v, w => RecIs w v ⟨2, 3, [0, 1], [⟨#[]⟩, ⟨#[]⟩], 4⟩
  | 43, v, w => ∃ B, v = .slice (some ⟨B, 0, none⟩) 2 2 ∧ SeqAt IsInt w.heap v [0, 1]
  | 44, v, w => ∃ B, v = .slice (some ⟨B, 0, none⟩) 2 2 ∧ TextsAt w.heap v [⟨#[0, 0]⟩, ⟨#[0, 0]⟩]
  | 45, v, w => RecIs w v ⟨2, 3, [0, 1], [⟨#[0, 0]⟩, ⟨#[0, 0]⟩], 4⟩
  | 47, v, w => ∃ B, v = .slice (some ⟨B, 0, none⟩) 2 2 ∧ SeqAt IsInt w.heap v [0, 1]
  | 51, v, w => ∃ B, v = .slice (some ⟨B, 0, none⟩) 2 2 ∧ TextsAt w.heap v [l0, ⟨#[0, 3, 97, 98, 99, 100]⟩]
  | 52, v, w => RecIs w v ⟨2, 3, [0, 1], [l0, ⟨#[0, 3, 97, 98, 99, 100]⟩], 4⟩
  | 54, v, w => ∃ B, v = .slice (some ⟨B, 0, none⟩) 2 2 ∧ SeqAt IsInt w.heap v [0, 1]
  | 58, v, w => ∃ B, v = .slice (some ⟨B, 0, none⟩) 2 2 ∧ TextsAt w.heap v [l0, ⟨#[0, 2, 97, 98, 99, 0]⟩]
  | 59, v, w => RecIs w v ⟨2, 3, [0, 1], [l0, ⟨#[0, 2, 97, 98, 99, 0]⟩], 4⟩
  | 61, v, w => ∃ B, v = .slice (some ⟨B, 0, none⟩) 2 2 ∧ SeqAt IsInt w.heap v [0, 1]
  | 65, v, w => ∃ B, v = .slice (some ⟨B, 0, none⟩) 2 2 ∧ TextsAt w.heap v [l0, ⟨#[0, 5, 97, 98, 99, 0]⟩]
  | 66, v, w => RecIs w v ⟨2, 3, [0, 1], [l0, ⟨#[0, 5, 97, 98, 99, 0]⟩], 4⟩
  | 68, v, w => ∃ B, v = .slice (some ⟨B, 0, none⟩) 2 2 ∧ SeqAt IsInt w.heap v [0, 1]
  | 72, v, w => ∃ B, v = .slice (some ⟨B, 0, none⟩) 2 2 ∧ TextsAt w.heap v [⟨#[0, 0, 0, 0, 0, 1]⟩, l1]
  | 73, v, w => RecIs w v ⟨2, 3, [0, 1], [⟨#[0, 0, 0, 0, 0, 1]⟩, l1], 4⟩
  | 75, v, w => ∃ B, v = .slice (some ⟨B, 0, none⟩) 2 2 ∧ SeqAt IsInt w.heap v [0, 1]
  | 79, v, w => ∃ B, v = .slice (some ⟨B, 0, none⟩) 2 2 ∧ TextsAt w.heap v [⟨#[128, 0, 0, 0, 0, 0]⟩, l1]
  | 80, v, w => RecIs w v ⟨2, 3, [0, 1], [⟨#[128, 0, 0, 0, 0, 0]⟩, l1], 4⟩
  | 82, v, w => ∃ B, v = .slice (some ⟨B, 0, none⟩) 2 2 ∧ SeqAt IsInt w.heap v [0, 1]
  | 91, v, w => ∃ B, v = .slice (some ⟨B, 0, none⟩) 2 2 ∧ TextsAt w.heap v [(l0 ++ (⟨#[0]⟩ : ByteArray)), (l1 ++ (⟨#[0]⟩ : ByteArray))]
  | 92, v, w => RecIs w v ⟨2, 3, [0, 1], [(l0 ++ (⟨#[0]⟩ : ByteArray)), (l1 ++ (⟨#[0]⟩ : ByteArray))], 4⟩
  | 94, v, w => ∃ B, v = .slice (some ⟨B, 0, none⟩) 2 2 ∧ SeqAt IsInt w.heap v [0, 1]
  | 95, v, w => ∃ B, v = .slice (some ⟨B, 0, none⟩) 2 2 ∧ TextsAt w.heap v [⟨#[0, 0, 0, 0, 0, 0, 0]⟩, ⟨#[3, 97, 98, 99, 0, 0, 0]⟩]
  | 96, v, w => RecIs w v ⟨2, 3, [0, 1], [⟨#[0, 0, 0, 0, 0, 0, 0]⟩, ⟨#[3, 97, 98, 99, 0, 0, 0]⟩], 4⟩
  | 98, v, w => ∃ B, v = .slice (some ⟨B, 0, none⟩) 2 2 ∧ SeqAt IsInt w.heap v [1, 0]
  | 105, v, w => ∃ B, v = .slice (some ⟨B, 0, none⟩) 2 2 ∧ TextsAt w.heap v [l1, l0]
  | 106, v, w => RecIs w v ⟨2, 3, [1, 0], [l1, l0], 0⟩
  | 108, v, w => ∃ B, v = .slice (some ⟨B, 0, none⟩) 2 2 ∧ SeqAt IsInt w.heap v [2, 0]
  | 115, v, w => ∃ B, v = .slice (some ⟨B, 0, none⟩) 2 2 ∧ TextsAt w.heap v [l2, l0]
  | 116, v, w => RecIs w v ⟨2, 3, [2, 0], [l2, l0], 0⟩
  | 118, v, w => ∃ B, v = .slice (some ⟨B, 0, none⟩) 3 3 ∧ SeqAt IsInt w.heap v [2, 1, 0]
  | 128, v, w => ∃ B, v = .slice (some ⟨B, 0, none⟩) 3 3 ∧ TextsAt w.heap v [l2, l1, l0]
  | 129, v, w => RecIs w v ⟨2, 3, [2, 1, 0], [l2, l1, l0], 0⟩
  | 131, v, w => ∃ B, v = .slice (some ⟨B, 0, none⟩) 3 3 ∧ SeqAt IsInt w.heap v [2, 1, 0]
  | 141, v, w => ∃ B, v = .slice (some ⟨B, 0, none⟩) 3 3 ∧ TextsAt w.heap v [l2, l1, l1]
  | 142, v, w => RecIs w v ⟨2, 3, [2, 1, 0], [l2, l1, l1], 4⟩
  | 144, v, w => ∃ B, v = .slice (some ⟨B, 0, none⟩) 3 3 ∧ SeqAt IsInt w.heap v [0, 1, 2]
  | 154, v, w => ∃ B, v = .slice (some ⟨B, 0, none⟩) 3 3 ∧ TextsAt w.heap v [l0, l1, l1]
  | 155, v, w => RecIs w v ⟨2, 3, [0, 1, 2], [l0, l1, l1], 4⟩
  | 156, v, w => ∃ B, v = .slice (some ⟨B, 0, none⟩) 21 21 ∧ TabIs w B (tabN l0 l1 l2)
  | i, v, _ => v = ([.agg #[.int .i64 3, .int .i64 2], undef, .slice (some ⟨bl, ol, none⟩) 3 ql, .slice (some ⟨bl, ol, none⟩) 2 ql, undef, .agg #[.int .i64 2, .int .i64 3], undef, .slice (some ⟨bl, ol, none⟩) 3 ql, .slice (some ⟨bl, ol, none⟩) 2 ql, undef, .agg #[.int .i64 2, .int .i64 3], undef, .slice (some ⟨bl, ol, none⟩) 3 ql, .slice (some ⟨bl, ol, none⟩) 2 ql, undef, .agg #[.int .i64 2, .int .i64 3], undef, .slice (some ⟨bl, ol, none⟩) 3 ql, .slice (some ⟨bl, ol, none⟩) 2 ql, undef, .agg #[.int .i64 2, .int .i64 3], undef, .agg #[.int .i64 2, .int .i64 3], undef, .slice (some ⟨bl, ol, none⟩) 3 ql, .slice (some ⟨bl, ol + 2, none⟩) 1 (ql - 2), undef, .agg #[.int .i64 2, .int .i64 3], undef, .slice (some ⟨bl, ol, none⟩) 3 ql, .pointer (some ⟨bl, ol, none⟩), .string l0, .slice (some ⟨bl, ol, none⟩) 3 ql, .pointer (some ⟨bl, ol + 1, none⟩), .string l1, .string (l1 ++ (⟨#[0]⟩ : ByteArray)), undef, undef, .agg #[.int .i64 2, .int .i64 3], undef, undef, undef, .agg #[.int .i64 2, .int .i64 3], undef, undef, undef, .agg #[.int .i64 2, .int .i64 3], undef, .slice (some ⟨bl, ol, none⟩) 3 ql, .pointer (some ⟨bl, ol, none⟩), .string l0, undef, undef, .agg #[.int .i64 2, .int .i64 3], undef, .slice (some ⟨bl, ol, none⟩) 3 ql, .pointer (some ⟨bl, ol, none⟩), .string l0, undef, undef, .agg #[.int .i64 2, .int .i64 3], undef, .slice (some ⟨bl, ol, none⟩) 3 ql, .pointer (some ⟨bl, ol, none⟩), .string l0, undef, undef, .agg #[.int .i64 2, .int .i64 3], undef, .slice (some ⟨bl, ol, none⟩) 3 ql, .pointer (some ⟨bl, ol + 1, none⟩), .string l1, undef, undef, .agg #[.int .i64 2, .int .i64 3], undef, .slice (some ⟨bl, ol, none⟩) 3 ql, .pointer (some ⟨bl, ol + 1, none⟩), .string l1, undef, undef, .agg #[.int .i64 2, .int .i64 3], undef, .slice (some ⟨bl, ol, none⟩) 3 ql, .pointer (some ⟨bl, ol, none⟩), .string l0, .string (l0 ++ (⟨#[0]⟩ : ByteArray)), .slice (some ⟨bl, ol, none⟩) 3 ql, .pointer (some ⟨bl, ol + 1, none⟩), .string l1, .string (l1 ++ (⟨#[0]⟩ : ByteArray)), undef, undef, .agg #[.int .i64 2, .int .i64 3], undef, undef, undef, .agg #[.int .i64 2, .int .i64 3], undef, .slice (some ⟨bl, ol, none⟩) 3 ql, .pointer (some ⟨bl, ol + 1, none⟩), .string l1, .slice (some ⟨bl, ol, none⟩) 3 ql, .pointer (some ⟨bl, ol, none⟩), .string l0, undef, undef, .agg #[.int .i64 2, .int .i64 3], undef, .slice (some ⟨bl, ol, none⟩) 3 ql, .pointer (some ⟨bl, ol + 2, none⟩), .string l2, .slice (some ⟨bl, ol, none⟩) 3 ql, .pointer (some ⟨bl, ol, none⟩), .string l0, undef, undef, .agg #[.int .i64 2, .int .i64 3], undef, .slice (some ⟨bl, ol, none⟩) 3 ql, .pointer (some ⟨bl, ol + 2, none⟩), .string l2, .slice (some ⟨bl, ol, none⟩) 3 ql, .pointer (some ⟨bl, ol + 1, none⟩), .string l1, .slice (some ⟨bl, ol, none⟩) 3 ql, .pointer (some ⟨bl, ol, none⟩), .string l0, undef, undef, .agg #[.int .i64 2, .int .i64 3], undef, .slice (some ⟨bl, ol, none⟩) 3 ql, .pointer (some ⟨bl, ol + 2, none⟩), .string l2, .slice (some ⟨bl, ol, none⟩) 3 ql, .pointer (some ⟨bl, ol + 1, none⟩), .string l1, .slice (some ⟨bl, ol, none⟩) 3 ql, .pointer (some ⟨bl, ol + 1, none⟩), .string l1, undef, undef, .agg #[.int .i64 2, .int .i64 3], undef, .slice (some ⟨bl, ol, none⟩) 3 ql, .pointer (some ⟨bl, ol, none⟩), .string l0, .slice (some ⟨bl, ol, none⟩) 3 ql, .pointer (some ⟨bl, ol + 1, none⟩), .string l1, .slice (some ⟨bl, ol, none⟩) 3 ql, .pointer (some ⟨bl, ol + 1, none⟩), .string l1, undef, undef, undef, .int .i64 21, .int .i64 0] : List Value).getD i undef
theorem cn18_keeps {bc bb bl ol ql : Nat} {l0 l1 l2 : ByteArray} (i : Nat) (v : Value) (w w' : World) (c : Keeps w w') (h : cn18 bc bb bl ol ql l0 l1 l2 i v w) : cn18 bc bb bl ol ql l0 l1 l2 i v w' := by
  match i, h with
  | 0, h => exact h
  | 1, h => obtain ⟨B, h1, h2⟩ := h; exact ⟨B, h1, SeqAt.keeps h2 c⟩
  | 2, h => exact h
  | 3, h => exact h
  | 4, h => exact RecIs.keeps h c
  | 5, h => exact h
  | 6, h => obtain ⟨B, h1, h2⟩ := h; exact ⟨B, h1, SeqAt.keeps h2 c⟩
  | 7, h => exact h
  | 8, h => exact h
  | 9, h => exact RecIs.keeps h c
  | 10, h => exact h
  | 11, h => obtain ⟨B, h1, h2⟩ := h; exact ⟨B, h1, SeqAt.keeps h2 c⟩
  | 12, h => exact h
  | 13, h => exact h
  | 14, h => exact RecIs.keeps h c
  | 15, h => exact h
  | 16, h => obtain ⟨B, h1, h2⟩ := h; exact ⟨B, h1, SeqAt.keeps h2 c⟩
  | 17, h => exact h
  | 18, h => exact h
  | 19, h => exact RecIs.keeps h c
  | 20, h => exact h
  | 21, h => exact RecIs.keeps h c
  | 22, h => exact h
  | 23, h => obtain ⟨B, h1, h2⟩ := h; exact ⟨B, h1, SeqAt.keeps h2 c⟩
  | 24, h => exact h
  | 25, h => exact h
  | 26, h => exact RecIs.keeps h c
  | 27, h => exact h
  | 28, h => obtain ⟨B, h1, h2⟩ := h; exact ⟨B, h1, SeqAt.keeps h2 c⟩
  | 29, h => exact h
  | 30, h => exact h
  | 31, h => exact h
  | 32, h => exact h
  | 33, h => exact h
  | 34, h => exact h
  | 35, h => exact h
  | 36, h => obtain ⟨B, h1, h2⟩ := h; exact ⟨B, h1, SeqAt.keeps h2 c⟩
  | 37, h => exact RecIs.keeps h c
  | 38, h => exact h
  | 39, h => obtain ⟨B, h1, h2⟩ := h; exact ⟨B, h1, SeqAt.keeps h2 c⟩
  | 40, h => obtain ⟨B, h1, h2⟩ := h; exact ⟨B, h1, SeqAt.keeps h2 c⟩
  | 41, h => exact RecIs.keeps h c
  | 42, h => exact h
  | 43, h => obtain ⟨B, h1, h2⟩ := h; exact ⟨B, h1, SeqAt.keeps h2 c⟩
  | 44, h => obtain ⟨B, h1, h2⟩ := h; exact ⟨B, h1, SeqAt.keeps h2 c⟩
  | 45, h => exact RecIs.keeps h c
  | 46, h => exact h
  | 47, h => obtain ⟨B, h1, h2⟩ := h; exact ⟨B, h1, SeqAt.keeps h2 c⟩
  | 48, h => exact h
  | 49, h => exact h
  | 50, h => exact h
  | 51, h => obtain ⟨B, h1, h2⟩ := h; exact ⟨B, h1, SeqAt.keeps h2 c⟩
  | 52, h => exact RecIs.keeps h c
  | 53, h => exact h
  | 54, h => obtain ⟨B, h1, h2⟩ := h; exact ⟨B, h1, SeqAt.keeps h2 c⟩
  | 55, h => exact h
  | 56, h => exact h
  | 57, h => exact h
  | 58, h => obtain ⟨B, h1, h2⟩ := h; exact ⟨B, h1, SeqAt.keeps h2 c⟩
  | 59, h => exact RecIs.keeps h c
  | 60, h => exact h
  | 61, h => obtain ⟨B, h1, h2⟩ := h; exact ⟨B, h1, SeqAt.keeps h2 c⟩
  | 62, h => exact h
  | 63, h => exact h
  | 64, h => exact h
  | 65, h => obtain ⟨B, h1, h2⟩ := h; exact ⟨B, h1, SeqAt.keeps h2 c⟩
  | 66, h => exact RecIs.keeps h c
  | 67, h => exact h
  | 68, h => obtain ⟨B, h1, h2⟩ := h; exact ⟨B, h1, SeqAt.keeps h2 c⟩
  | 69, h => exact h
  | 70, h => exact h
  | 71, h => exact h
  | 72, h => obtain ⟨B, h1, h2⟩ := h; exact ⟨B, h1, SeqAt.keeps h2 c⟩
  | 73, h => exact RecIs.keeps h c
  | 74, h => exact h
  | 75, h => obtain ⟨B, h1, h2⟩ := h; exact ⟨B, h1, SeqAt.keeps h2 c⟩
  | 76, h => exact h
  | 77, h => exact h
  | 78, h => exact h
  | 79, h => obtain ⟨B, h1, h2⟩ := h; exact ⟨B, h1, SeqAt.keeps h2 c⟩
  | 80, h => exact RecIs.keeps h c
  | 81, h => exact h
  | 82, h => obtain ⟨B, h1, h2⟩ := h; exact ⟨B, h1, SeqAt.keeps h2 c⟩
  | 83, h => exact h
  | 84, h => exact h
  | 85, h => exact h
  | 86, h => exact h
  | 87, h => exact h
  | 88, h => exact h
  | 89, h => exact h
  | 90, h => exact h
  | 91, h => obtain ⟨B, h1, h2⟩ := h; exact ⟨B, h1, SeqAt.keeps h2 c⟩
  | 92, h => exact RecIs.keeps h c
  | 93, h => exact h
  | 94, h => obtain ⟨B, h1, h2⟩ := h; exact ⟨B, h1, SeqAt.keeps h2 c⟩
  | 95, h => obtain ⟨B, h1, h2⟩ := h; exact ⟨B, h1, SeqAt.keeps h2 c⟩
  | 96, h => exact RecIs.keeps h c
  | 97, h => exact h
  | 98, h => obtain ⟨B, h1, h2⟩ := h; exact ⟨B, h1, SeqAt.keeps h2 c⟩
  | 99, h => exact h
  | 100, h => exact h
  | 101, h => exact h
  | 102, h => exact h
  | 103, h => exact h
  | 104, h => exact h
  | 105, h => obtain ⟨B, h1, h2⟩ := h; exact ⟨B, h1, SeqAt.keeps h2 c⟩
  | 106, h => exact RecIs.keeps h c
  | 107, h => exact h
  | 108, h => obtain ⟨B, h1, h2⟩ := h; exact ⟨B, h1, SeqAt.keeps h2 c⟩
  | 109, h => exact h
  | 110, h => exact h
  | 111, h => exact h
  | 112, h => exact h
  | 113, h => exact h
  | 114, h => exact h
  | 115, h => obtain ⟨B, h1, h2⟩ := h; exact ⟨B, h1, SeqAt.keeps h2 c⟩
  | 116, h => exact RecIs.keeps h c
  | 117, h => exact h
  | 118, h => obtain ⟨B, h1, h2⟩ := h; exact ⟨B, h1, SeqAt.keeps h2 c⟩
  | 119, h => exact h
  | 120, h => exact h
  | 121, h => exact h
  | 122, h => exact h
  | 123, h => exact h
  | 124, h => exact h
  | 125, h => exact h
  | 126, h => exact h
  | 127, h => exact h
  | 128, h => obtain ⟨B, h1, h2⟩ := h; exact ⟨B, h1, SeqAt.keeps h2 c⟩
  | 129, h => exact RecIs.keeps h c
  | 130, h => exact h
  | 131, h => obtain ⟨B, h1, h2⟩ := h; exact ⟨B, h1, SeqAt.keeps h2 c⟩
  | 132, h => exact h
  | 133, h => exact h
  | 134, h => exact h
  | 135, h => exact h
  | 136, h => exact h
  | 137, h => exact h
  | 138, h => exact h
  | 139, h => exact h
  | 140, h => exact h
  | 141, h => obtain ⟨B, h1, h2⟩ := h; exact ⟨B, h1, SeqAt.keeps h2 c⟩
  | 142, h => exact RecIs.keeps h c
  | 143, h => exact h
  | 144, h => obtain ⟨B, h1, h2⟩ := h; exact ⟨B, h1, SeqAt.keeps h2 c⟩
  | 145, h => exact h
  | 146, h => exact h
  | 147, h => exact h
  | 148, h => exact h
  | 149, h => exact h
  | 150, h => exact h
  | 151, h => exact h
  | 152, h => exact h
  | 153, h => exact h
  | 154, h => obtain ⟨B, h1, h2⟩ := h; exact ⟨B, h1, SeqAt.keeps h2 c⟩
  | 155, h => exact RecIs.keeps h c
  | 156, h => obtain ⟨B, h1, h2⟩ := h; exact ⟨B, h1, h2.keeps c⟩
  | 157, h => exact h
  | 158, h => exact h
  | _ + 159, h => exact h
def cn28 (bc bl ol ql : Nat) : Nat → Value → World → Prop
  | 1, v, w => ∃ B, v = .slice (some ⟨B, 0, none⟩) 2 2 ∧ SeqAt IsInt w.heap v [0, 1]
  | i, v, _ => v = ([.agg #[.int .i64 2, .int .i64 3], undef, .slice (some ⟨bl, ol, none⟩) 3 ql, .slice (some ⟨bl, ol, none⟩) 2 ql, .tuple #[.string ⟨#[]⟩, .int .i64 1], .tuple #[.string ⟨#[]⟩, .int .i64 1], .string ⟨#[]⟩, .int .i64 1, .string ⟨#[]⟩, .int .i64 1] : List Value).getD i undef
theorem cn28_keeps {bc bl ol ql : Nat} (i : Nat) (v : Value) (w w' : World) (c : Keeps w w') (h : cn28 bc bl ol ql i v w) : cn28 bc bl ol ql i v w' := by
  match i, h with
  | 0, h => exact h
  | 1, h => obtain ⟨B, h1, h2⟩ := h; exact ⟨B, h1, SeqAt.keeps h2 c⟩
  | 2, h => exact h
  | 3, h => exact h
  | 4, h => exact h
  | 5, h => exact h
  | 6, h => exact h
  | 7, h => exact h
  | 8, h => exact h
  | 9, h => exact h
  | _ + 10, h => exact h
def cn29 (bc bl ol ql : Nat) : Nat → Value → World → Prop
  | 1, v, w => ∃ B, v = .slice (some ⟨B, 0, none⟩) 1 1 ∧ SeqAt IsInt w.heap v [0]
  | i, v, _ => v = ([.agg #[.int .i64 2, .int .i64 3], undef, .slice (some ⟨bl, ol, none⟩) 3 ql, .slice (some ⟨bl, ol, none⟩) 1 ql, .tuple #[.string ⟨#[]⟩, .int .i64 1], .tuple #[.string ⟨#[]⟩, .int .i64 1], .string ⟨#[]⟩, .int .i64 1, .string ⟨#[]⟩, .int .i64 1] : List Value).getD i undef
theorem cn29_keeps {bc bl ol ql : Nat} (i : Nat) (v : Value) (w w' : World) (c : Keeps w w') (h : cn29 bc bl ol ql i v w) : cn29 bc bl ol ql i v w' := by
  match i, h with
  | 0, h => exact h
  | 1, h => obtain ⟨B, h1, h2⟩ := h; exact ⟨B, h1, SeqAt.keeps h2 c⟩
  | 2, h => exact h
  | 3, h => exact h
  | 4, h => exact h
  | 5, h => exact h
  | 6, h => exact h
  | 7, h => exact h
  | 8, h => exact h
  | 9, h => exact h
  | _ + 10, h => exact h
def cn11 (bc : Nat) (Z9 : ByteArray) : Nat → Value → World → Prop
  | 1, v, w => ∃ B, v = .slice (some ⟨B, 0, none⟩) 32769 32769 ∧ RowAt w.heap v Z9.data.toList
  | 3, v, _ => ∃ u, v = .tuple #[u, .int .i64 40]
  | 4, v, _ => ∃ u, v = .tuple #[u, .int .i64 40]
  | 5, _, _ => True
  | 7, _, _ => True
  | i, v, _ => v = ([.agg #[.int .i64 2, .int .i64 3], undef, .string Z9, undef, undef, undef, .int .i64 40, undef, .int .i64 40] : List Value).getD i undef
theorem cn11_keeps {bc : Nat} {Z9 : ByteArray} (i : Nat) (v : Value) (w w' : World) (c : Keeps w w') (h : cn11 bc Z9 i v w) : cn11 bc Z9 i v w' := by
  match i, h with
  | 0, h => exact h
  | 1, h => obtain ⟨B, h1, h2⟩ := h; exact ⟨B, h1, SeqAt.keeps h2 c⟩
  | 2, h => exact h
  | 3, h => exact h
  | 4, h => exact h
  | 5, h => exact h
  | 6, h => exact h
  | 7, h => exact h
  | 8, h => exact h
  | _ + 9, h => exact h
set_option maxRecDepth 100000 in
set_option maxHeartbeats 8000000 in
theorem cnames_any (w : World) : Calls Tryd.prog 6 #[] w fun e w' => e = .returned (.bool true) ∧ Keeps w w' := by
  have HWK := Lib.hid works_any
  have HS1 : Hid (∀ wx, Calls Tryd.prog 15 #[.agg #[.int .i64 3, .int .i64 2], .int .i64 1] wx fun e w' => e = .returned (.tuple #[.int .i64 0, .int .i64 1]) ∧ Keeps wx w') := fun wx => by have := csize_any 3 2 1 wx (by decide) (by decide); rw [ex_sizes.1] at this; exact this
  have HS2 : Hid (∀ wx, Calls Tryd.prog 15 #[.agg #[.int .i64 2, .int .i64 3], .int .i64 (-1)] wx fun e w' => e = .returned (.tuple #[.int .i64 0, .int .i64 1]) ∧ Keeps wx w') := fun wx => by have := csize_any 2 3 (-1) wx (by decide) (by decide); rw [ex_sizes.2.1] at this; exact this
  have HS3 : Hid (∀ wx, Calls Tryd.prog 15 #[.agg #[.int .i64 2, .int .i64 3], .int .i64 32769] wx fun e w' => e = .returned (.tuple #[.int .i64 0, .int .i64 40]) ∧ Keeps wx w') := fun wx => by have := csize_any 2 3 32769 wx (by decide) (by decide); rw [ex_sizes.2.2.1] at this; exact this
  have HS4 : Hid (∀ wx, Calls Tryd.prog 15 #[.agg #[.int .i64 2, .int .i64 3], .int .i64 32768] wx fun e w' => e = .returned (.tuple #[.int .i64 16388, .int .i64 0]) ∧ Keeps wx w') := fun wx => by have := csize_any 2 3 32768 wx (by decide) (by decide); rw [ex_sizes.2.2.2] at this; exact this
  have HE1 : Hid (∀ wx, Calls Tryd.prog 14 #[.agg #[.int .i64 3, .int .i64 2], .string ⟨#[]⟩] wx fun e w' => (∃ v, e = .returned (.tuple #[v, .int .i64 1])) ∧ Keeps wx w') := fun wx => by
    have := cencodeG_any 3 2 ⟨#[]⟩ wx (by decide); rw [ex_bad] at this; exact this.mono fun e w' ⟨v, h, _, k⟩ => ⟨⟨v, h⟩, k⟩
  obtain ⟨Z, hZ⟩ : ∃ Z, Z = strB (zerosB 32768) := ⟨_, rfl⟩
  obtain ⟨Z9, hZ9⟩ : ∃ Z, Z = strB (zerosB 32769) := ⟨_, rfl⟩
  have HML : Hid (∃ M : List (List UInt8), M.length = 12 ∧ (M.getD 11 []).length = 2732 ∧ encC 12 12 Z.data.toList = (M.map strB, 0)) := ⟨encM 12 12 (zerosB 32768), encM_len _ _ _, by rw [enc_row_length (by omega)]; unfold zerosB; rw [List.length_replicate]; rfl, by rw [hZ]; exact ex_long⟩
  obtain ⟨M, hM1, hM2, hM3⟩ := HML.out
  have HM1 := Lib.hid hM1
  have HM2 := Lib.hid hM2
  have hzs : Z.size ≤ 9223372036854775807 := by rw [hZ, strB_size]; unfold zerosB; rw [List.length_replicate]; omega
  have hzs9 : Z9.size ≤ 9223372036854775807 := by rw [hZ9, strB_size]; unfold zerosB; rw [List.length_replicate]; omega
  have HE2 : Hid (∀ wx, Calls Tryd.prog 14 #[.agg #[.int .i64 12, .int .i64 12], .string Z] wx fun e w' => ∃ v, e = .returned (.tuple #[v, .int .i64 0]) ∧ TextsAt w'.heap v (M.map strB) ∧ Keeps wx w') := fun wx => by
    have := cencodeG_any 12 12 Z wx hzs; rw [hM3] at this; exact this.mono fun e w' ⟨v, h, g, k⟩ => ⟨v, h, SeqIn.at_ g.1, k⟩
  have HE3 : Hid (∀ wx, Calls Tryd.prog 14 #[.agg #[.int .i64 2, .int .i64 3], .string Z9] wx fun e w' => (∃ v, e = .returned (.tuple #[v, .int .i64 40])) ∧ Keeps wx w') := fun wx => by
    have := cencodeG_any 2 3 Z9 wx hzs9
    have e : encC 2 3 Z9.data.toList = ([], 40) := by rw [hZ9]; exact ex_large
    rw [e] at this; exact this.mono fun e w' ⟨v, h, _, k⟩ => ⟨⟨v, h⟩, k⟩
  have HE4 : Hid (∀ wx, Calls Tryd.prog 14 #[.agg #[.int .i64 12, .int .i64 12], .string ⟨#[]⟩] wx fun e w' => ∃ v, e = .returned (.tuple #[v, .int .i64 0]) ∧ TextsAt w'.heap v (List.replicate 12 ⟨#[0]⟩) ∧ Keeps wx w') := fun wx => by
    have := cencodeG_any 12 12 ⟨#[]⟩ wx (by decide); rw [ex_empty] at this; exact this.mono fun e w' ⟨v, h, g, k⟩ => ⟨v, h, SeqIn.at_ g.1, k⟩
  obtain ⟨l0, hl0⟩ : ∃ x, x = ex0 := ⟨_, rfl⟩
  obtain ⟨l1, hl1⟩ : ∃ x, x = ex1 := ⟨_, rfl⟩
  obtain ⟨l2, hl2⟩ : ∃ x, x = ex2 := ⟨_, rfl⟩
  have HE5 : Hid (∀ wx, Calls Tryd.prog 14 #[.agg #[.int .i64 2, .int .i64 3], .string ⟨#[97, 98, 99]⟩] wx fun e w' => ∃ v, e = .returned (.tuple #[v, .int .i64 0]) ∧ GotT (wx.heap.size ≤ ·) w' v [l0, l1, l2] ∧ Keeps wx w') := fun wx => by
    have := cencodeG_any 2 3 ⟨#[97, 98, 99]⟩ wx (by decide); rw [ex_enc] at this; rw [hl0, hl1, hl2]; exact this
  have HTO : Hid ((tabN l0 l1 l2).all (okR l2) = true) := by show _ = _; rw [hl0, hl1, hl2]; exact tab_ok
  have HR3 : Hid (rebD 2 3 [0, 1] [l0, l1] 3 = (⟨#[]⟩, 1)) := by show _ = _; rw [hl0, hl1]; exact ex_reb3
  have HRN : Hid (rebD 2 3 [0] [l0] (-1) = (⟨#[]⟩, 1)) := by show _ = _; rw [hl0]; exact ex_rebn
  have HLS : Hid (l0.size = 6 ∧ l1.size = 6) := by show _ ∧ _; rw [hl0, hl1]; exact ⟨rfl, rfl⟩
  have HMK : Hid (∀ wx : World, ∃ ob, (Instr.makeSlice 39 (.int .i64 32768) (.int .i64 32768)).run Tryd.prog wx = .ok (.slice (some ⟨wx.heap.size, 0, none⟩) 32768 32768) (wx.alloc ob) ∧ RowAt (wx.alloc ob).heap (.slice (some ⟨wx.heap.size, 0, none⟩) 32768 32768) Z.data.toList) := by rw [hZ]; exact fun wx => mkz_any 32768 (by omega) wx
  have HMK9 : Hid (∀ wx : World, ∃ ob, (Instr.makeSlice 39 (.int .i64 32769) (.int .i64 32769)).run Tryd.prog wx = .ok (.slice (some ⟨wx.heap.size, 0, none⟩) 32769 32769) (wx.alloc ob) ∧ RowAt (wx.alloc ob).heap (.slice (some ⟨wx.heap.size, 0, none⟩) 32769 32769) Z9.data.toList) := by rw [hZ9]; exact fun wx => mkz_any 32769 (by omega) wx
  clear hZ hZ9 hM1 hM2 hM3 HML hzs hzs9 hl0 hl1 hl2
  go_enter Tryd.func6, Tryd.ntmps6
  go_wp2_with fail
  refine Calls.mono (HWK.out _) ?_
  rintro e w1 ⟨rfl, hk⟩
  have HK1 := Lib.hid hk
  clear hk HWK
  go_upto_region 5 with (fail)
  have HK2 : Hid (Keeps w ((w1.alloc (.cells #[.int .i64 2, .int .i64 3] 23)).alloc (.cells #[.int .i64 3, .int .i64 2] 23))) := (HK1.out.trans (kal _ _)).trans (kal _ _)
  have HC : Hid (∀ wx, Keeps ((w1.alloc (.cells #[.int .i64 2, .int .i64 3] 23)).alloc (.cells #[.int .i64 3, .int .i64 2] 23)) wx → (wx.cell? ⟨w1.heap.size, 0, none⟩ = some (.int .i64 2) ∧ wx.cell? ⟨w1.heap.size, 1, none⟩ = some (.int .i64 3)) ∧ wx.cell? ⟨w1.heap.size + 1, 0, none⟩ = some (.int .i64 3) ∧ wx.cell? ⟨w1.heap.size + 1, 1, none⟩ = some (.int .i64 2)) := fun wx hx =>
    ⟨⟨keeps_cell hx (keeps_cell (kal _ _) (World.cell?_alloc_new _ _ _ _)), keeps_cell hx (keeps_cell (kal _ _) (World.cell?_alloc_new _ _ _ _))⟩, by
      have h0 := keeps_cell hx (World.cell?_alloc_new (w1.alloc (.cells #[.int .i64 2, .int .i64 3] 23)) #[.int .i64 3, .int .i64 2] 23 0)
      have h1 := keeps_cell hx (World.cell?_alloc_new (w1.alloc (.cells #[.int .i64 2, .int .i64 3] 23)) #[.int .i64 3, .int .i64 2] 23 1)
      rw [show (w1.alloc (.cells #[.int .i64 2, .int .i64 3] 23)).heap.size = w1.heap.size + 1 from by simp] at h0 h1
      exact ⟨h0, h1⟩⟩
  generalize (w1.alloc (.cells #[.int .i64 2, .int .i64 3] 23)).alloc (.cells #[.int .i64 3, .int .i64 2] 23) = w2 at *
  generalize w1.heap.size + 1 = bb at *
  generalize w1.heap.size = bc at *
  clear HK1
  obtain ⟨⟨c0, c1⟩, c2, c3⟩ := HC.out _ (keeps_refl _)
  go_wp2_with fail
  refine Calls.mono (HS1.out _) ?_
  rintro e w3 ⟨rfl, hk⟩
  have HK3 := Lib.hid hk
  obtain ⟨⟨c0, c1⟩, c2, c3⟩ := HC.out _ HK3.out
  clear hk HS1
  go_wp2_with fail
  refine Calls.mono (HS2.out _) ?_
  rintro e w4 ⟨rfl, hk⟩
  have HK4 := Lib.hid (HK3.out.trans hk)
  obtain ⟨⟨c0, c1⟩, c2, c3⟩ := HC.out _ HK4.out
  clear hk HS2
  go_wp2_with fail
  refine Calls.mono (HS3.out _) ?_
  rintro e w5 ⟨rfl, hk⟩
  have HK5 := Lib.hid (HK4.out.trans hk)
  obtain ⟨⟨c0, c1⟩, c2, c3⟩ := HC.out _ HK5.out
  clear hk HS3
  go_wp2_with fail
  refine Calls.mono (HS4.out _) ?_
  rintro e w6 ⟨rfl, hk⟩
  have HK6 := Lib.hid (HK5.out.trans hk)
  obtain ⟨⟨c0, c1⟩, c2, c3⟩ := HC.out _ HK6.out
  clear hk HS4
  go_wp2_with fail
  refine Calls.mono (HE1.out _) ?_
  rintro e w7 ⟨⟨v7, rfl⟩, hk⟩
  have HK7 := Lib.hid (HK6.out.trans hk)
  clear hk HE1
  obtain ⟨ob, hmk, hrow⟩ := HMK.out w7
  have cv := conv_rowT hrow
  rw [strB_data] at cv
  have HK8 := Lib.hid (HK7.out.trans (kal w7 ob))
  go_upto_region 10 with (fail)
  go_wp2_with fail
  refine Calls.mono (HE2.out _) ?_
  rintro e w8 ⟨v8, rfl, hg, hk⟩
  obtain ⟨pg, qg, rfl⟩ := seq_shape hg
  have HG := Lib.hid hg
  have HK9 := Lib.hid (HK8.out.trans hk)
  clear hk hg hmk cv hrow HK8 HE2 HMK
  rw [List.length_map, HM1.out] at HG ⊢
  go_upto_region 11 with (fail)
  obtain ⟨⟨c0, c1⟩, c2, c3⟩ := HC.out _ HK9.out
  have A0 := Lib.hid c0
  have A1 := Lib.hid c1
  clear c0 c1 c2 c3
  refine wp_region_stage [77, 78, 79, 80, 76, 81, 82, 15, 16] [[], [], [1], [0, 2], [3], [4], [4], [5], [6]] [] [0, 0, 0, 0, 0, 0, 0, 0, 0] [] (cn11 bc Z9) (fun w w' => Keeps w w') (fun _ _ w' => Keeps w8 w') (by kernel_rfl) (by kernel_rfl) (by kernel_rfl) (by kernel_rfl) (by kernel_rfl) (by kernel_rfl) (by kernel_rfl) ?_ ?_ ?_ ?_ ?_ ?_ ?_
  · exact fun i v w w' c h => cn11_keeps i v w w' c h
  · exact fun w => keeps_refl w
  · exact fun i s vs w _ h => h
  · refine ⟨?_, ?_, ?_, ?_, ?_, ?_, ?_, ?_, ?_, trivial⟩
    · exact fun g b h => by (cases h)
    · exact fun g b h => by (cases h)
    · exact fun g b h => by (cases h)
    · exact fun g b h => by (cases h)
    · exact fun g b h => by (cases h)
    · exact fun g b h => by (cases h)
    · exact fun g b h => by (cases h)
    · exact fun g b h => by (cases h)
    · exact fun g b h => by (cases h)
  · exact fun _ _ => keeps_refl w8
  · refine ⟨?_, ?_, ?_, ?_, ?_, ?_, ?_, ?_, ?_, trivial⟩
    · intro _ a w1 vs hI ho hn hu K hK
      have e1 : a.tmps[1]? = some (.pointer (some ⟨bc, 0, none⟩)) := ho 1 rfl
      clear hn ho hu
      have c0 := keeps_cell hI A0.out
      have c1 := keeps_cell hI A1.out
      go_simp
      exact hK _ _ (keeps_refl _) hI rfl
    · intro _ a w1 vs hI ho hn hu K hK
      clear hn ho hu
      obtain ⟨ob, hmk, hrow⟩ := HMK9.out w1
      go_simp
      exact hK _ _ (kal _ _) (Keeps.trans hI (kal _ _)) ⟨_, rfl, hrow⟩
    · intro _ a w1 vs hI ho hn hu K hK
      obtain ⟨e78, g78⟩ : a.tmps[78]? = some (vs 1) ∧ ∃ B, (vs 1) = .slice (some ⟨B, 0, none⟩) 32769 32769 ∧ RowAt w1.heap (vs 1) Z9.data.toList := hn 1 (by decide)
      clear hn ho hu
      obtain ⟨B, e9, h9⟩ := g78
      have cv := conv_rowT h9
      rw [e9] at e78 cv
      rw [strB_data] at cv
      go_simp
      exact hK _ _ (keeps_refl _) hI rfl
    · intro _ a w1 vs hI ho hn hu K hK
      obtain ⟨e77, g77⟩ : a.tmps[77]? = some (vs 0) ∧ vs 0 = .agg #[.int .i64 2, .int .i64 3] := hn 0 (by decide)
      rw [g77] at e77
      clear g77
      obtain ⟨e79, g79⟩ : a.tmps[79]? = some (vs 2) ∧ vs 2 = .string Z9 := hn 2 (by decide)
      rw [g79] at e79
      clear g79
      clear hn ho hu
      go_simp
      refine Calls.mono (HE3.out _) ?_
      rintro e w' ⟨⟨u, rfl⟩, hk2⟩
      go_simp
      exact hK _ _ hk2 (Keeps.trans hI hk2) ⟨u, rfl⟩
    · intro _ a w1 vs hI ho hn hu K hK
      obtain ⟨e80, g80⟩ : a.tmps[80]? = some (vs 3) ∧ ∃ u, (vs 3) = .tuple #[u, .int .i64 40] := hn 3 (by decide)
      clear hn ho hu
      go_simp
      exact hK _ _ (keeps_refl _) hI g80
    · intro _ a w1 vs hI ho hn hu K hK
      obtain ⟨e76, g76⟩ : a.tmps[76]? = some (vs 4) ∧ ∃ u, (vs 4) = .tuple #[u, .int .i64 40] := hn 4 (by decide)
      clear hn ho hu
      obtain ⟨u, hu⟩ := g76
      rw [hu] at e76
      go_simp
      exact hK _ _ (keeps_refl _) hI trivial
    · intro _ a w1 vs hI ho hn hu K hK
      obtain ⟨e76, g76⟩ : a.tmps[76]? = some (vs 4) ∧ ∃ u, (vs 4) = .tuple #[u, .int .i64 40] := hn 4 (by decide)
      clear hn ho hu
      obtain ⟨u, hu⟩ := g76
      rw [hu] at e76
      go_simp
      exact hK _ _ (keeps_refl _) hI rfl
    · intro _ a w1 vs hI ho hn hu K hK
      obtain ⟨e81, g81⟩ : a.tmps[81]? = some (vs 5) ∧ True := hn 5 (by decide)
      clear hn ho hu
      go_simp
      exact hK _ _ (keeps_refl _) hI trivial
    · intro _ a w1 vs hI ho hn hu K hK
      obtain ⟨e82, g82⟩ : a.tmps[82]? = some (vs 6) ∧ vs 6 = .int .i64 40 := hn 6 (by decide)
      rw [g82] at e82
      clear g82
      clear hn ho hu
      go_simp
      exact hK _ _ (keeps_refl _) hI rfl
  intro vs wE hI hG
  have eL : vs 8 = .int .i64 40 := hG 8 (by decide)
  have HKL := Lib.hid hI
  clear hG hI
  simp only [setAll, Nat.zero_add, Nat.reduceAdd, List.setIfInBounds_toArray, List.set_cons_zero, List.set_cons_succ, eL]
  clear eL
  generalize vs 0 = y0 at *
  generalize vs 1 = y1 at *
  generalize vs 2 = y2 at *
  generalize vs 3 = y3 at *
  generalize vs 4 = y4 at *
  generalize vs 5 = y5 at *
  generalize vs 6 = y6 at *
  generalize vs 7 = y7 at *
  have HKB := Lib.hid (HK9.out.trans HKL.out)
  have HG2 := Lib.hid (SeqAt.keeps HG.out HKL.out)
  clear A0 A1 HKL HG HMK9 HE3
  generalize wE = wb at *
  go_wp2_with fail
  refine Calls.mono (HE4.out _) ?_
  rintro e w9 ⟨v9, rfl, hg, hk⟩
  obtain ⟨pn, qn, rfl⟩ := seq_shape hg
  obtain ⟨bn, on, rfl, dn⟩ := text_cellH hg (i := 0) (by decide)
  have HL12 : Hid ((List.replicate 12 (⟨#[0]⟩ : ByteArray)).length = 12) := rfl
  have HN0 : Hid ((List.replicate 12 (⟨#[0]⟩ : ByteArray))[0]'(by decide) = ⟨#[0]⟩) := rfl
  rw [HN0.out, Nat.add_zero] at dn
  rw [HL12.out]
  obtain ⟨bg, og, rfl, dg⟩ := text_cellH (SeqAt.keeps HG2.out hk) (i := 11) (by rw [List.length_map, HM1.out]; omega)
  have HX : Hid (∀ (h : 11 < (M.map strB).length), ((M.map strB)[11]'h).size = 2732) := fun h => by
    have := HM2.out
    rw [List.getElem_map, strB_size]
    rw [List.getD_eq_getElem?_getD, List.getElem?_eq_getElem (by rw [HM1.out]; omega)] at this
    exact this
  have hxs := HX.out (by rw [List.length_map, HM1.out]; omega)
  generalize (M.map strB)[11]'(by rw [List.length_map, HM1.out]; omega) = X at *
  have HKC := Lib.hid (HKB.out.trans hk)
  obtain ⟨⟨c0, c1⟩, c2, c3⟩ := HC.out _ HKC.out
  clear hk hg HKB HG2 HX HN0 HL12 HE4
  go_wp2_with fail
  refine Calls.mono (HE5.out _) ?_
  rintro e wa ⟨v, rfl, hg, hk⟩
  obtain ⟨hs, pv, nv, ql, rfl, hq⟩ := hg
  have hl : nv = 3 := by obtain ⟨_, _, e, _⟩ := hs; cases e; rfl
  subst hl
  have HT := Lib.hid hs.at_
  have HKA := Lib.hid (HKC.out.trans hk)
  obtain ⟨bl, ol, rfl, d0⟩ := text_cellH HT.out (i := 0) (by simp)
  obtain ⟨b1, o1, e1, d1⟩ := text_cellH HT.out (i := 1) (by simp)
  cases e1
  obtain ⟨b2, o2, e2, d2⟩ := text_cellH HT.out (i := 2) (by simp)
  cases e2
  obtain ⟨⟨c0, c1⟩, c2, c3⟩ := HC.out _ HKA.out
  have L0 : Hid (wa.cell? ⟨bl, ol, none⟩ = some (.string l0)) := d0
  have L1 : Hid (wa.cell? ⟨bl, ol + 1, none⟩ = some (.string l1)) := d1
  have L2 : Hid (wa.cell? ⟨bl, ol + 2, none⟩ = some (.string l2)) := d2
  have A0 := Lib.hid c0
  have A1 := Lib.hid c1
  have B0 := Lib.hid c2
  have B1 := Lib.hid c3
  have HQ1 : Hid ((1 : Int) ≤ (ql : Int)) := by show _ ≤ _; omega
  have HQ2 : Hid ((2 : Int) ≤ (ql : Int)) := by show _ ≤ _; omega
  have HQ4 : Hid ((3 : Int) ≤ (ql : Int)) := by show _ ≤ _; omega
  have HQ3 : Hid ((ql = 2) = False) := by show _ = _; exact eq_false (by omega)
  have HQ5 : Hid (1 ≤ ql - 2) := by show _ ≤ _; omega
  have L0S : Hid ((9223372036854775807 < l0.size + 1) = False) := by show _ = _; have := HLS.out; exact eq_false (by omega)
  have L1S : Hid ((9223372036854775807 < l1.size + 1) = False) := by show _ = _; have := HLS.out; exact eq_false (by omega)
  have HF2 : Hid (SeqAt IsText wa.heap (.slice (some ⟨bl, ol, none⟩) 2 ql) [l0, l1]) := SeqAt.front HT.out (k := 2) (by simp)
  have HF1 : Hid (SeqAt IsText wa.heap (.slice (some ⟨bl, ol, none⟩) 1 ql) [l0]) := SeqAt.front HT.out (k := 1) (by simp)
  have HR2 : Hid (SeqAt IsText wa.heap (.slice (some ⟨bl, ol + 2, none⟩) 1 (ql - 2)) [l2]) := SeqAt.rear HT.out (k := 2) (by simp) rfl
  clear c0 c1 c2 c3 d0 d1 d2 hs hk hq HE5 HKC
  go_upto_region 18 with (fail)
  simp only [List.append]
  refine wp_region_stage [147, 148, 149, 150, 151, 152, 153, 154, 155, 156, 157, 158, 159, 160, 161, 162, 163, 164, 165, 166, 167, 168, 169, 170, 171, 172, 173, 174, 175, 176, 177, 178, 179, 180, 181, 182, 183, 184, 185, 186, 187, 188, 189, 190, 191, 192, 193, 194, 195, 196, 197, 198, 199, 200, 201, 202, 203, 204, 205, 206, 207, 208, 209, 210, 211, 212, 213, 214, 215, 216, 217, 218, 219, 220, 221, 222, 223, 224, 225, 226, 227, 228, 229, 230, 231, 232, 233, 234, 235, 236, 237, 238, 239, 240, 241, 242, 243, 244, 245, 246, 247, 248, 249, 250, 251, 252, 253, 254, 255, 256, 257, 258, 259, 260, 261, 262, 263, 264, 265, 266, 267, 268, 269, 270, 271, 272, 273, 274, 275, 276, 277, 278, 279, 280, 281, 282, 283, 284, 285, 286, 287, 288, 289, 290, 291, 292, 293, 294, 295, 296, 297, 298, 299, 300, 301, 302, 303, 304, 305] [[], [], [], [2], [0, 1, 3], [], [], [], [7], [5, 6, 8], [], [], [], [12], [10, 11, 13], [], [], [], [17], [15, 16, 18], [], [20], [], [], [], [24], [22, 23, 25], [], [], [], [29], [30], [], [32], [33], [34], [31, 35], [27, 28, 36], [], [], [], [38, 39, 40], [], [], [], [42, 43, 44], [], [], [], [48], [49], [50], [46, 47, 51], [], [], [], [55], [56], [57], [53, 54, 58], [], [], [], [62], [63], [64], [60, 61, 65], [], [], [], [69], [70], [71], [67, 68, 72], [], [], [], [76], [77], [78], [74, 75, 79], [], [], [], [83], [84], [85], [], [87], [88], [89], [86, 90], [81, 82, 91], [], [], [], [93, 94, 95], [], [], [], [99], [100], [], [102], [103], [101, 104], [97, 98, 105], [], [], [], [109], [110], [], [112], [113], [111, 114], [107, 108, 115], [], [], [], [119], [120], [], [122], [123], [], [125], [126], [121, 124, 127], [117, 118, 128], [], [], [], [132], [133], [], [135], [136], [], [138], [139], [134, 137, 140], [130, 131, 141], [], [], [], [145], [146], [], [148], [149], [], [151], [152], [147, 150, 153], [143, 144, 154], [4, 9, 14, 19, 21, 26, 37, 41, 45, 52, 59, 66, 73, 80, 92, 96, 106, 116, 129, 142, 155], [156], []] [] [0, 0, 0, 0, 0, 0, 0, 0, 0, 0, 0, 0, 0, 0, 0, 0, 0, 0, 0, 0, 0, 0, 0, 0, 0, 0, 0, 0, 0, 0, 0, 0, 0, 0, 0, 0, 0, 0, 0, 0, 0, 0, 0, 0, 0, 0, 0, 0, 0, 0, 0, 0, 0, 0, 0, 0, 0, 0, 0, 0, 0, 0, 0, 0, 0, 0, 0, 0, 0, 0, 0, 0, 0, 0, 0, 0, 0, 0, 0, 0, 0, 0, 0, 0, 0, 0, 0, 0, 0, 0, 0, 0, 0, 0, 0, 0, 0, 0, 0, 0, 0, 0, 0, 0, 0, 0, 0, 0, 0, 0, 0, 0, 0, 0, 0, 0, 0, 0, 0, 0, 0, 0, 0, 0, 0, 0, 0, 0, 0, 0, 0, 0, 0, 0, 0, 0, 0, 0, 0, 0, 0, 0, 0, 0, 0, 0, 0, 0, 0, 0, 0, 0, 0, 0, 0, 0, 0, 0, 0] [] (cn18 bc bb bl ol ql l0 l1 l2) (fun w w' => Keeps w w') (fun _ _ w' => Keeps wa w') (by kernel_rfl) (by kernel_rfl) (by kernel_rfl) (by kernel_rfl) (by kernel_rfl) (by kernel_rfl) (by kernel_rfl) ?_ ?_ ?_ ?_ ?_ ?_ ?_
  · exact fun i v w w' c h => cn18_keeps i v w w' c h
  · exact fun w => keeps_refl w
  · exact fun i s vs w _ h => h
  · refine ⟨?_, ?_, ?_, ?_, ?_, ?_, ?_, ?_, ?_, ?_, ?_, ?_, ?_, ?_, ?_, ?_, ?_, ?_, ?_, ?_, ?_, ?_, ?_, ?_, ?_, ?_, ?_, ?_, ?_, ?_, ?_, ?_, ?_, ?_, ?_, ?_, ?_, ?_, ?_, ?_, ?_, ?_, ?_, ?_, ?_, ?_, ?_, ?_, ?_, ?_, ?_, ?_, ?_, ?_, ?_, ?_, ?_, ?_, ?_, ?_, ?_, ?_, ?_, ?_, ?_, ?_, ?_, ?_, ?_, ?_, ?_, ?_, ?_, ?_, ?_, ?_, ?_, ?_, ?_, ?_, ?_, ?_, ?_, ?_, ?_, ?_, ?_, ?_, ?_, ?_, ?_, ?_, ?_, ?_, ?_, ?_, ?_, ?_, ?_, ?_, ?_, ?_, ?_, ?_, ?_, ?_, ?_, ?_, ?_, ?_, ?_, ?_, ?_, ?_, ?_, ?_, ?_, ?_, ?_, ?_, ?_, ?_, ?_, ?_, ?_, ?_, ?_, ?_, ?_, ?_, ?_, ?_, ?_, ?_, ?_, ?_, ?_, ?_, ?_, ?_, ?_, ?_, ?_, ?_, ?_, ?_, ?_, ?_, ?_, ?_, ?_, ?_, ?_, ?_, ?_, ?_, ?_, ?_, ?_, trivial⟩
    · exact fun g b h => by (cases h)
    · exact fun g b h => by (cases h)
    · exact fun g b h => by (cases h)
    · exact fun g b h => by (cases h)
    · exact fun g b h => by (cases h)
    · exact fun g b h => by (cases h)
    · exact fun g b h => by (cases h)
    · exact fun g b h => by (cases h)
    · exact fun g b h => by (cases h)
    · exact fun g b h => by (cases h)
    · exact fun g b h => by (cases h)
    · exact fun g b h => by (cases h)
    · exact fun g b h => by (cases h)
    · exact fun g b h => by (cases h)
    · exact fun g b h => by (cases h)
    · exact fun g b h => by (cases h)
    · exact fun g b h => by (cases h)
    · exact fun g b h => by (cases h)
    · exact fun g b h => by (cases h)
    · exact fun g b h => by (cases h)
    · exact fun g b h => by (cases h)
    · exact fun g b h => by (cases h)
    · exact fun g b h => by (cases h)
    · exact fun g b h => by (cases h)
    · exact fun g b h => by (cases h)
    · exact fun g b h => by (cases h)
    · exact fun g b h => by (cases h)
    · exact fun g b h => by (cases h)
    · exact fun g b h => by (cases h)
    · exact fun g b h => by (cases h)
    · exact fun g b h => by (cases h)
    · exact fun g b h => by (cases h)
    · exact fun g b h => by (cases h)
    · exact fun g b h => by (cases h)
    · exact fun g b h => by (cases h)
    · exact fun g b h => by (cases h)
    · exact fun g b h => by (cases h)
    · exact fun g b h => by (cases h)
    · exact fun g b h => by (cases h)
    · exact fun g b h => by (cases h)
    · exact fun g b h => by (cases h)
    · exact fun g b h => by (cases h)
    · exact fun g b h => by (cases h)
    · exact fun g b h => by (cases h)
    · exact fun g b h => by (cases h)
    · exact fun g b h => by (cases h)
    · exact fun g b h => by (cases h)
    · exact fun g b h => by (cases h)
    · exact fun g b h => by (cases h)
    · exact fun g b h => by (cases h)
    · exact fun g b h => by (cases h)
    · exact fun g b h => by (cases h)
    · exact fun g b h => by (cases h)
    · exact fun g b h => by (cases h)
    · exact fun g b h => by (cases h)
    · exact fun g b h => by (cases h)
    · exact fun g b h => by (cases h)
    · exact fun g b h => by (cases h)
    · exact fun g b h => by (cases h)
    · exact fun g b h => by (cases h)
    · exact fun g b h => by (cases h)
    · exact fun g b h => by (cases h)
    · exact fun g b h => by (cases h)
    · exact fun g b h => by (cases h)
    · exact fun g b h => by (cases h)
    · exact fun g b h => by (cases h)
    · exact fun g b h => by (cases h)
    · exact fun g b h => by (cases h)
    · exact fun g b h => by (cases h)
    · exact fun g b h => by (cases h)
    · exact fun g b h => by (cases h)
    · exact fun g b h => by (cases h)
    · exact fun g b h => by (cases h)
    · exact fun g b h => by (cases h)
    · exact fun g b h => by (cases h)
    · exact fun g b h => by (cases h)
    · exact fun g b h => by (cases h)
    · exact fun g b h => by (cases h)
    · exact fun g b h => by (cases h)
    · exact fun g b h => by (cases h)
    · exact fun g b h => by (cases h)
    · exact fun g b h => by (cases h)
    · exact fun g b h => by (cases h)
    · exact fun g b h => by (cases h)
    · exact fun g b h => by (cases h)
    · exact fun g b h => by (cases h)
    · exact fun g b h => by (cases h)
    · exact fun g b h => by (cases h)
    · exact fun g b h => by (cases h)
    · exact fun g b h => by (cases h)
    · exact fun g b h => by (cases h)
    · exact fun g b h => by (cases h)
    · exact fun g b h => by (cases h)
    · exact fun g b h => by (cases h)
    · exact fun g b h => by (cases h)
    · exact fun g b h => by (cases h)
    · exact fun g b h => by (cases h)
    · exact fun g b h => by (cases h)
    · exact fun g b h => by (cases h)
    · exact fun g b h => by (cases h)
    · exact fun g b h => by (cases h)
    · exact fun g b h => by (cases h)
    · exact fun g b h => by (cases h)
    · exact fun g b h => by (cases h)
    · exact fun g b h => by (cases h)
    · exact fun g b h => by (cases h)
    · exact fun g b h => by (cases h)
    · exact fun g b h => by (cases h)
    · exact fun g b h => by (cases h)
    · exact fun g b h => by (cases h)
    · exact fun g b h => by (cases h)
    · exact fun g b h => by (cases h)
    · exact fun g b h => by (cases h)
    · exact fun g b h => by (cases h)
    · exact fun g b h => by (cases h)
    · exact fun g b h => by (cases h)
    · exact fun g b h => by (cases h)
    · exact fun g b h => by (cases h)
    · exact fun g b h => by (cases h)
    · exact fun g b h => by (cases h)
    · exact fun g b h => by (cases h)
    · exact fun g b h => by (cases h)
    · exact fun g b h => by (cases h)
    · exact fun g b h => by (cases h)
    · exact fun g b h => by (cases h)
    · exact fun g b h => by (cases h)
    · exact fun g b h => by (cases h)
    · exact fun g b h => by (cases h)
    · exact fun g b h => by (cases h)
    · exact fun g b h => by (cases h)
    · exact fun g b h => by (cases h)
    · exact fun g b h => by (cases h)
    · exact fun g b h => by (cases h)
    · exact fun g b h => by (cases h)
    · exact fun g b h => by (cases h)
    · exact fun g b h => by (cases h)
    · exact fun g b h => by (cases h)
    · exact fun g b h => by (cases h)
    · exact fun g b h => by (cases h)
    · exact fun g b h => by (cases h)
    · exact fun g b h => by (cases h)
    · exact fun g b h => by (cases h)
    · exact fun g b h => by (cases h)
    · exact fun g b h => by (cases h)
    · exact fun g b h => by (cases h)
    · exact fun g b h => by (cases h)
    · exact fun g b h => by (cases h)
    · exact fun g b h => by (cases h)
    · exact fun g b h => by (cases h)
    · exact fun g b h => by (cases h)
    · exact fun g b h => by (cases h)
    · exact fun g b h => by (cases h)
    · exact fun g b h => by (cases h)
    · exact fun g b h => by (cases h)
    · exact fun g b h => by (cases h)
    · exact fun g b h => by (cases h)
    · exact fun g b h => by (cases h)
    · exact fun g b h => by (cases h)
    · exact fun g b h => by (cases h)
  · exact fun _ _ => keeps_refl wa
  · refine ⟨?_, ?_, ?_, ?_, ?_, ?_, ?_, ?_, ?_, ?_, ?_, ?_, ?_, ?_, ?_, ?_, ?_, ?_, ?_, ?_, ?_, ?_, ?_, ?_, ?_, ?_, ?_, ?_, ?_, ?_, ?_, ?_, ?_, ?_, ?_, ?_, ?_, ?_, ?_, ?_, ?_, ?_, ?_, ?_, ?_, ?_, ?_, ?_, ?_, ?_, ?_, ?_, ?_, ?_, ?_, ?_, ?_, ?_, ?_, ?_, ?_, ?_, ?_, ?_, ?_, ?_, ?_, ?_, ?_, ?_, ?_, ?_, ?_, ?_, ?_, ?_, ?_, ?_, ?_, ?_, ?_, ?_, ?_, ?_, ?_, ?_, ?_, ?_, ?_, ?_, ?_, ?_, ?_, ?_, ?_, ?_, ?_, ?_, ?_, ?_, ?_, ?_, ?_, ?_, ?_, ?_, ?_, ?_, ?_, ?_, ?_, ?_, ?_, ?_, ?_, ?_, ?_, ?_, ?_, ?_, ?_, ?_, ?_, ?_, ?_, ?_, ?_, ?_, ?_, ?_, ?_, ?_, ?_, ?_, ?_, ?_, ?_, ?_, ?_, ?_, ?_, ?_, ?_, ?_, ?_, ?_, ?_, ?_, ?_, ?_, ?_, ?_, ?_, ?_, ?_, ?_, ?_, ?_, ?_, trivial⟩
    · intro _ a w1 vs hI ho hn hu K hK
      have e2 : a.tmps[2]? = some (.pointer (some ⟨bb, 0, none⟩)) := ho 2 rfl
      clear hn ho hu
      have c0 := keeps_cell hI B0.out
      have c1 := keeps_cell hI B1.out
      go_simp
      exact hK _ _ (keeps_refl _) hI rfl
    · intro _ a w1 vs hI ho hn hu K hK
      clear hn ho hu
      go_simp
      exact hK _ _ (kal _ _) (Keeps.trans hI (kal _ _)) ⟨_, rfl, intsAt_lit w1 [0, 1] 2 2 rfl (by omega)⟩
    · intro _ a w1 vs hI ho hn hu K hK
      have e19 : a.tmps[19]? = some (.slice (some ⟨bl, ol, none⟩) 3 ql) := ho 19 rfl
      clear hn ho hu
      go_simp
      exact hK _ _ (keeps_refl _) hI rfl
    · intro _ a w1 vs hI ho hn hu K hK
      obtain ⟨e149, g149⟩ : a.tmps[149]? = some (vs 2) ∧ vs 2 = .slice (some ⟨bl, ol, none⟩) 3 ql := hn 2 (by decide)
      rw [g149] at e149
      clear g149
      clear hn ho hu
      have hq : (2 : Int) ≤ (ql : Int) := HQ2.out
      go_simp
      exact hK _ _ (keeps_refl _) hI rfl
    · intro _ a w1 vs hI ho hn hu K hK
      obtain ⟨e147, g147⟩ : a.tmps[147]? = some (vs 0) ∧ vs 0 = .agg #[.int .i64 3, .int .i64 2] := hn 0 (by decide)
      rw [g147] at e147
      clear g147
      obtain ⟨e148, g148⟩ : a.tmps[148]? = some (vs 1) ∧ ∃ B, (vs 1) = .slice (some ⟨B, 0, none⟩) 2 2 ∧ SeqAt IsInt w1.heap (vs 1) [0, 1] := hn 1 (by decide)
      obtain ⟨e150, g150⟩ : a.tmps[150]? = some (vs 3) ∧ vs 3 = .slice (some ⟨bl, ol, none⟩) 2 ql := hn 3 (by decide)
      rw [g150] at e150
      clear g150
      clear hn ho hu
      obtain ⟨P1, e1, h1⟩ := g148
      rw [e1] at e148 h1
      go_simp
      exact hK _ _ (keeps_refl _) hI ⟨.slice (some ⟨P1, 0, none⟩) 2 2, .slice (some ⟨bl, ol, none⟩) 2 ql, rfl, h1, SeqAt.keeps HF2.out hI, ⟨_, _, _, rfl, Nat.le_refl _⟩, ⟨_, _, _, rfl, Int.ofNat_le.1 HQ2.out⟩⟩
    · intro _ a w1 vs hI ho hn hu K hK
      have e1 : a.tmps[1]? = some (.pointer (some ⟨bc, 0, none⟩)) := ho 1 rfl
      clear hn ho hu
      have c0 := keeps_cell hI A0.out
      have c1 := keeps_cell hI A1.out
      go_simp
      exact hK _ _ (keeps_refl _) hI rfl
    · intro _ a w1 vs hI ho hn hu K hK
      clear hn ho hu
      go_simp
      exact hK _ _ (kal _ _) (Keeps.trans hI (kal _ _)) ⟨_, rfl, intsAt_lit w1 [0] 1 1 rfl (by omega)⟩
    · intro _ a w1 vs hI ho hn hu K hK
      have e19 : a.tmps[19]? = some (.slice (some ⟨bl, ol, none⟩) 3 ql) := ho 19 rfl
      clear hn ho hu
      go_simp
      exact hK _ _ (keeps_refl _) hI rfl
    · intro _ a w1 vs hI ho hn hu K hK
      obtain ⟨e154, g154⟩ : a.tmps[154]? = some (vs 7) ∧ vs 7 = .slice (some ⟨bl, ol, none⟩) 3 ql := hn 7 (by decide)
      rw [g154] at e154
      clear g154
      clear hn ho hu
      have hq : (2 : Int) ≤ (ql : Int) := HQ2.out
      go_simp
      exact hK _ _ (keeps_refl _) hI rfl
    · intro _ a w1 vs hI ho hn hu K hK
      obtain ⟨e152, g152⟩ : a.tmps[152]? = some (vs 5) ∧ vs 5 = .agg #[.int .i64 2, .int .i64 3] := hn 5 (by decide)
      rw [g152] at e152
      clear g152
      obtain ⟨e153, g153⟩ : a.tmps[153]? = some (vs 6) ∧ ∃ B, (vs 6) = .slice (some ⟨B, 0, none⟩) 1 1 ∧ SeqAt IsInt w1.heap (vs 6) [0] := hn 6 (by decide)
      obtain ⟨e155, g155⟩ : a.tmps[155]? = some (vs 8) ∧ vs 8 = .slice (some ⟨bl, ol, none⟩) 2 ql := hn 8 (by decide)
      rw [g155] at e155
      clear g155
      clear hn ho hu
      obtain ⟨P1, e1, h1⟩ := g153
      rw [e1] at e153 h1
      go_simp
      exact hK _ _ (keeps_refl _) hI ⟨.slice (some ⟨P1, 0, none⟩) 1 1, .slice (some ⟨bl, ol, none⟩) 2 ql, rfl, h1, SeqAt.keeps HF2.out hI, ⟨_, _, _, rfl, Nat.le_refl _⟩, ⟨_, _, _, rfl, Int.ofNat_le.1 HQ2.out⟩⟩
    · intro _ a w1 vs hI ho hn hu K hK
      have e1 : a.tmps[1]? = some (.pointer (some ⟨bc, 0, none⟩)) := ho 1 rfl
      clear hn ho hu
      have c0 := keeps_cell hI A0.out
      have c1 := keeps_cell hI A1.out
      go_simp
      exact hK _ _ (keeps_refl _) hI rfl
    · intro _ a w1 vs hI ho hn hu K hK
      clear hn ho hu
      go_simp
      exact hK _ _ (kal _ _) (Keeps.trans hI (kal _ _)) ⟨_, rfl, intsAt_lit w1 [0, 3] 2 2 rfl (by omega)⟩
    · intro _ a w1 vs hI ho hn hu K hK
      have e19 : a.tmps[19]? = some (.slice (some ⟨bl, ol, none⟩) 3 ql) := ho 19 rfl
      clear hn ho hu
      go_simp
      exact hK _ _ (keeps_refl _) hI rfl
    · intro _ a w1 vs hI ho hn hu K hK
      obtain ⟨e159, g159⟩ : a.tmps[159]? = some (vs 12) ∧ vs 12 = .slice (some ⟨bl, ol, none⟩) 3 ql := hn 12 (by decide)
      rw [g159] at e159
      clear g159
      clear hn ho hu
      have hq : (2 : Int) ≤ (ql : Int) := HQ2.out
      go_simp
      exact hK _ _ (keeps_refl _) hI rfl
    · intro _ a w1 vs hI ho hn hu K hK
      obtain ⟨e157, g157⟩ : a.tmps[157]? = some (vs 10) ∧ vs 10 = .agg #[.int .i64 2, .int .i64 3] := hn 10 (by decide)
      rw [g157] at e157
      clear g157
      obtain ⟨e158, g158⟩ : a.tmps[158]? = some (vs 11) ∧ ∃ B, (vs 11) = .slice (some ⟨B, 0, none⟩) 2 2 ∧ SeqAt IsInt w1.heap (vs 11) [0, 3] := hn 11 (by decide)
      obtain ⟨e160, g160⟩ : a.tmps[160]? = some (vs 13) ∧ vs 13 = .slice (some ⟨bl, ol, none⟩) 2 ql := hn 13 (by decide)
      rw [g160] at e160
      clear g160
      clear hn ho hu
      obtain ⟨P1, e1, h1⟩ := g158
      rw [e1] at e158 h1
      go_simp
      exact hK _ _ (keeps_refl _) hI ⟨.slice (some ⟨P1, 0, none⟩) 2 2, .slice (some ⟨bl, ol, none⟩) 2 ql, rfl, h1, SeqAt.keeps HF2.out hI, ⟨_, _, _, rfl, Nat.le_refl _⟩, ⟨_, _, _, rfl, Int.ofNat_le.1 HQ2.out⟩⟩
    · intro _ a w1 vs hI ho hn hu K hK
      have e1 : a.tmps[1]? = some (.pointer (some ⟨bc, 0, none⟩)) := ho 1 rfl
      clear hn ho hu
      have c0 := keeps_cell hI A0.out
      have c1 := keeps_cell hI A1.out
      go_simp
      exact hK _ _ (keeps_refl _) hI rfl
    · intro _ a w1 vs hI ho hn hu K hK
      clear hn ho hu
      go_simp
      exact hK _ _ (kal _ _) (Keeps.trans hI (kal _ _)) ⟨_, rfl, intsAt_lit w1 [(-1), 0] 2 2 rfl (by omega)⟩
    · intro _ a w1 vs hI ho hn hu K hK
      have e19 : a.tmps[19]? = some (.slice (some ⟨bl, ol, none⟩) 3 ql) := ho 19 rfl
      clear hn ho hu
      go_simp
      exact hK _ _ (keeps_refl _) hI rfl
    · intro _ a w1 vs hI ho hn hu K hK
      obtain ⟨e164, g164⟩ : a.tmps[164]? = some (vs 17) ∧ vs 17 = .slice (some ⟨bl, ol, none⟩) 3 ql := hn 17 (by decide)
      rw [g164] at e164
      clear g164
      clear hn ho hu
      have hq : (2 : Int) ≤ (ql : Int) := HQ2.out
      go_simp
      exact hK _ _ (keeps_refl _) hI rfl
    · intro _ a w1 vs hI ho hn hu K hK
      obtain ⟨e162, g162⟩ : a.tmps[162]? = some (vs 15) ∧ vs 15 = .agg #[.int .i64 2, .int .i64 3] := hn 15 (by decide)
      rw [g162] at e162
      clear g162
      obtain ⟨e163, g163⟩ : a.tmps[163]? = some (vs 16) ∧ ∃ B, (vs 16) = .slice (some ⟨B, 0, none⟩) 2 2 ∧ SeqAt IsInt w1.heap (vs 16) [(-1), 0] := hn 16 (by decide)
      obtain ⟨e165, g165⟩ : a.tmps[165]? = some (vs 18) ∧ vs 18 = .slice (some ⟨bl, ol, none⟩) 2 ql := hn 18 (by decide)
      rw [g165] at e165
      clear g165
      clear hn ho hu
      obtain ⟨P1, e1, h1⟩ := g163
      rw [e1] at e163 h1
      go_simp
      exact hK _ _ (keeps_refl _) hI ⟨.slice (some ⟨P1, 0, none⟩) 2 2, .slice (some ⟨bl, ol, none⟩) 2 ql, rfl, h1, SeqAt.keeps HF2.out hI, ⟨_, _, _, rfl, Nat.le_refl _⟩, ⟨_, _, _, rfl, Int.ofNat_le.1 HQ2.out⟩⟩
    · intro _ a w1 vs hI ho hn hu K hK
      have e1 : a.tmps[1]? = some (.pointer (some ⟨bc, 0, none⟩)) := ho 1 rfl
      clear hn ho hu
      have c0 := keeps_cell hI A0.out
      have c1 := keeps_cell hI A1.out
      go_simp
      exact hK _ _ (keeps_refl _) hI rfl
    · intro _ a w1 vs hI ho hn hu K hK
      obtain ⟨e167, g167⟩ : a.tmps[167]? = some (vs 20) ∧ vs 20 = .agg #[.int .i64 2, .int .i64 3] := hn 20 (by decide)
      rw [g167] at e167
      clear g167
      clear hn ho hu
      go_simp
      exact hK _ _ (keeps_refl _) hI ⟨.slice none 0 0, .slice none 0 0, rfl, SeqAt.nil _ _, SeqAt.nil _ _, ⟨_, _, _, rfl, Nat.le_refl _⟩, ⟨_, _, _, rfl, Nat.le_refl _⟩⟩
    · intro _ a w1 vs hI ho hn hu K hK
      have e1 : a.tmps[1]? = some (.pointer (some ⟨bc, 0, none⟩)) := ho 1 rfl
      clear hn ho hu
      have c0 := keeps_cell hI A0.out
      have c1 := keeps_cell hI A1.out
      go_simp
      exact hK _ _ (keeps_refl _) hI rfl
    · intro _ a w1 vs hI ho hn hu K hK
      clear hn ho hu
      go_simp
      exact hK _ _ (kal _ _) (Keeps.trans hI (kal _ _)) ⟨_, rfl, intsAt_lit w1 [2] 1 1 rfl (by omega)⟩
    · intro _ a w1 vs hI ho hn hu K hK
      have e19 : a.tmps[19]? = some (.slice (some ⟨bl, ol, none⟩) 3 ql) := ho 19 rfl
      clear hn ho hu
      go_simp
      exact hK _ _ (keeps_refl _) hI rfl
    · intro _ a w1 vs hI ho hn hu K hK
      obtain ⟨e171, g171⟩ : a.tmps[171]? = some (vs 24) ∧ vs 24 = .slice (some ⟨bl, ol, none⟩) 3 ql := hn 24 (by decide)
      rw [g171] at e171
      clear g171
      clear hn ho hu
      have hq : (ql = 2) = False := HQ3.out
      have hq2 : (3 : Int) ≤ (ql : Int) := HQ4.out
      go_simp
      exact hK _ _ (keeps_refl _) hI rfl
    · intro _ a w1 vs hI ho hn hu K hK
      obtain ⟨e169, g169⟩ : a.tmps[169]? = some (vs 22) ∧ vs 22 = .agg #[.int .i64 2, .int .i64 3] := hn 22 (by decide)
      rw [g169] at e169
      clear g169
      obtain ⟨e170, g170⟩ : a.tmps[170]? = some (vs 23) ∧ ∃ B, (vs 23) = .slice (some ⟨B, 0, none⟩) 1 1 ∧ SeqAt IsInt w1.heap (vs 23) [2] := hn 23 (by decide)
      obtain ⟨e172, g172⟩ : a.tmps[172]? = some (vs 25) ∧ vs 25 = .slice (some ⟨bl, ol + 2, none⟩) 1 (ql - 2) := hn 25 (by decide)
      rw [g172] at e172
      clear g172
      clear hn ho hu
      obtain ⟨P1, e1, h1⟩ := g170
      rw [e1] at e170 h1
      go_simp
      exact hK _ _ (keeps_refl _) hI ⟨.slice (some ⟨P1, 0, none⟩) 1 1, .slice (some ⟨bl, ol + 2, none⟩) 1 (ql - 2), rfl, h1, SeqAt.keeps HR2.out hI, ⟨_, _, _, rfl, Nat.le_refl _⟩, ⟨_, _, _, rfl, HQ5.out⟩⟩
    · intro _ a w1 vs hI ho hn hu K hK
      have e1 : a.tmps[1]? = some (.pointer (some ⟨bc, 0, none⟩)) := ho 1 rfl
      clear hn ho hu
      have c0 := keeps_cell hI A0.out
      have c1 := keeps_cell hI A1.out
      go_simp
      exact hK _ _ (keeps_refl _) hI rfl
    · intro _ a w1 vs hI ho hn hu K hK
      clear hn ho hu
      go_simp
      exact hK _ _ (kal _ _) (Keeps.trans hI (kal _ _)) ⟨_, rfl, intsAt_lit w1 [0, 1] 2 2 rfl (by omega)⟩
    · intro _ a w1 vs hI ho hn hu K hK
      have e19 : a.tmps[19]? = some (.slice (some ⟨bl, ol, none⟩) 3 ql) := ho 19 rfl
      clear hn ho hu
      go_simp
      exact hK _ _ (keeps_refl _) hI rfl
    · intro _ a w1 vs hI ho hn hu K hK
      obtain ⟨e176, g176⟩ : a.tmps[176]? = some (vs 29) ∧ vs 29 = .slice (some ⟨bl, ol, none⟩) 3 ql := hn 29 (by decide)
      rw [g176] at e176
      clear g176
      clear hn ho hu
      go_simp
      exact hK _ _ (keeps_refl _) hI rfl
    · intro _ a w1 vs hI ho hn hu K hK
      obtain ⟨e177, g177⟩ : a.tmps[177]? = some (vs 30) ∧ vs 30 = .pointer (some ⟨bl, ol, none⟩) := hn 30 (by decide)
      rw [g177] at e177
      clear g177
      clear hn ho hu
      have c := keeps_cell hI L0.out
      go_simp
      exact hK _ _ (keeps_refl _) hI rfl
    · intro _ a w1 vs hI ho hn hu K hK
      have e19 : a.tmps[19]? = some (.slice (some ⟨bl, ol, none⟩) 3 ql) := ho 19 rfl
      clear hn ho hu
      go_simp
      exact hK _ _ (keeps_refl _) hI rfl
    · intro _ a w1 vs hI ho hn hu K hK
      obtain ⟨e179, g179⟩ : a.tmps[179]? = some (vs 32) ∧ vs 32 = .slice (some ⟨bl, ol, none⟩) 3 ql := hn 32 (by decide)
      rw [g179] at e179
      clear g179
      clear hn ho hu
      go_simp
      exact hK _ _ (keeps_refl _) hI rfl
    · intro _ a w1 vs hI ho hn hu K hK
      obtain ⟨e180, g180⟩ : a.tmps[180]? = some (vs 33) ∧ vs 33 = .pointer (some ⟨bl, ol + 1, none⟩) := hn 33 (by decide)
      rw [g180] at e180
      clear g180
      clear hn ho hu
      have c := keeps_cell hI L1.out
      go_simp
      exact hK _ _ (keeps_refl _) hI rfl
    · intro _ a w1 vs hI ho hn hu K hK
      obtain ⟨e181, g181⟩ : a.tmps[181]? = some (vs 34) ∧ vs 34 = .string l1 := hn 34 (by decide)
      rw [g181] at e181
      clear g181
      clear hn ho hu
      have hs : (9223372036854775807 < l1.size + 1) = False := L1S.out
      go_simp
      exact hK _ _ (keeps_refl _) hI rfl
    · intro _ a w1 vs hI ho hn hu K hK
      obtain ⟨e178, g178⟩ : a.tmps[178]? = some (vs 31) ∧ vs 31 = .string l0 := hn 31 (by decide)
      rw [g178] at e178
      clear g178
      obtain ⟨e182, g182⟩ : a.tmps[182]? = some (vs 35) ∧ vs 35 = .string (l1 ++ (⟨#[0]⟩ : ByteArray)) := hn 35 (by decide)
      rw [g182] at e182
      clear g182
      clear hn ho hu
      go_simp
      exact hK _ _ (kal _ _) (Keeps.trans hI (kal _ _)) ⟨_, rfl, textsAt_lit w1 [l0, (l1 ++ (⟨#[0]⟩ : ByteArray))] 2 2 rfl (by omega)⟩
    · intro _ a w1 vs hI ho hn hu K hK
      obtain ⟨e174, g174⟩ : a.tmps[174]? = some (vs 27) ∧ vs 27 = .agg #[.int .i64 2, .int .i64 3] := hn 27 (by decide)
      rw [g174] at e174
      clear g174
      obtain ⟨e175, g175⟩ : a.tmps[175]? = some (vs 28) ∧ ∃ B, (vs 28) = .slice (some ⟨B, 0, none⟩) 2 2 ∧ SeqAt IsInt w1.heap (vs 28) [0, 1] := hn 28 (by decide)
      obtain ⟨e183, g183⟩ : a.tmps[183]? = some (vs 36) ∧ ∃ B, (vs 36) = .slice (some ⟨B, 0, none⟩) 2 2 ∧ TextsAt w1.heap (vs 36) [l0, (l1 ++ (⟨#[0]⟩ : ByteArray))] := hn 36 (by decide)
      clear hn ho hu
      obtain ⟨P1, e1, h1⟩ := g175
      rw [e1] at e175 h1
      obtain ⟨P2, e2, h2⟩ := g183
      rw [e2] at e183 h2
      go_simp
      exact hK _ _ (keeps_refl _) hI ⟨.slice (some ⟨P1, 0, none⟩) 2 2, .slice (some ⟨P2, 0, none⟩) 2 2, rfl, h1, h2, ⟨_, _, _, rfl, Nat.le_refl _⟩, ⟨_, _, _, rfl, Nat.le_refl _⟩⟩
    · intro _ a w1 vs hI ho hn hu K hK
      have e1 : a.tmps[1]? = some (.pointer (some ⟨bc, 0, none⟩)) := ho 1 rfl
      clear hn ho hu
      have c0 := keeps_cell hI A0.out
      have c1 := keeps_cell hI A1.out
      go_simp
      exact hK _ _ (keeps_refl _) hI rfl
    · intro _ a w1 vs hI ho hn hu K hK
      clear hn ho hu
      go_simp
      exact hK _ _ (kal _ _) (Keeps.trans hI (kal _ _)) ⟨_, rfl, intsAt_lit w1 [0, 1] 2 2 rfl (by omega)⟩
    · intro _ a w1 vs hI ho hn hu K hK
      clear hn ho hu
      go_simp
      exact hK _ _ (kal _ _) (Keeps.trans hI (kal _ _)) ⟨_, rfl, textsAt_lit w1 [⟨#[]⟩, ⟨#[]⟩] 2 2 rfl (by omega)⟩
    · intro _ a w1 vs hI ho hn hu K hK
      obtain ⟨e185, g185⟩ : a.tmps[185]? = some (vs 38) ∧ vs 38 = .agg #[.int .i64 2, .int .i64 3] := hn 38 (by decide)
      rw [g185] at e185
      clear g185
      obtain ⟨e186, g186⟩ : a.tmps[186]? = some (vs 39) ∧ ∃ B, (vs 39) = .slice (some ⟨B, 0, none⟩) 2 2 ∧ SeqAt IsInt w1.heap (vs 39) [0, 1] := hn 39 (by decide)
      obtain ⟨e187, g187⟩ : a.tmps[187]? = some (vs 40) ∧ ∃ B, (vs 40) = .slice (some ⟨B, 0, none⟩) 2 2 ∧ TextsAt w1.heap (vs 40) [⟨#[]⟩, ⟨#[]⟩] := hn 40 (by decide)
      clear hn ho hu
      obtain ⟨P1, e1, h1⟩ := g186
      rw [e1] at e186 h1
      obtain ⟨P2, e2, h2⟩ := g187
      rw [e2] at e187 h2
      go_simp
      exact hK _ _ (keeps_refl _) hI ⟨.slice (some ⟨P1, 0, none⟩) 2 2, .slice (some ⟨P2, 0, none⟩) 2 2, rfl, h1, h2, ⟨_, _, _, rfl, Nat.le_refl _⟩, ⟨_, _, _, rfl, Nat.le_refl _⟩⟩
    · intro _ a w1 vs hI ho hn hu K hK
      have e1 : a.tmps[1]? = some (.pointer (some ⟨bc, 0, none⟩)) := ho 1 rfl
      clear hn ho hu
      have c0 := keeps_cell hI A0.out
      have c1 := keeps_cell hI A1.out
      go_simp
      exact hK _ _ (keeps_refl _) hI rfl
    · intro _ a w1 vs hI ho hn hu K hK
      clear hn ho hu
      go_simp
      exact hK _ _ (kal _ _) (Keeps.trans hI (kal _ _)) ⟨_, rfl, intsAt_lit w1 [0, 1] 2 2 rfl (by omega)⟩
    · intro _ a w1 vs hI ho hn hu K hK
      clear hn ho hu
      go_simp
      exact hK _ _ (kal _ _) (Keeps.trans hI (kal _ _)) ⟨_, rfl, textsAt_lit w1 [⟨#[0, 0]⟩, ⟨#[0, 0]⟩] 2 2 rfl (by omega)⟩
    · intro _ a w1 vs hI ho hn hu K hK
      obtain ⟨e189, g189⟩ : a.tmps[189]? = some (vs 42) ∧ vs 42 = .agg #[.int .i64 2, .int .i64 3] := hn 42 (by decide)
      rw [g189] at e189
      clear g189
      obtain ⟨e190, g190⟩ : a.tmps[190]? = some (vs 43) ∧ ∃ B, (vs 43) = .slice (some ⟨B, 0, none⟩) 2 2 ∧ SeqAt IsInt w1.heap (vs 43) [0, 1] := hn 43 (by decide)
      obtain ⟨e191, g191⟩ : a.tmps[191]? = some (vs 44) ∧ ∃ B, (vs 44) = .slice (some ⟨B, 0, none⟩) 2 2 ∧ TextsAt w1.heap (vs 44) [⟨#[0, 0]⟩, ⟨#[0, 0]⟩] := hn 44 (by decide)
      clear hn ho hu
      obtain ⟨P1, e1, h1⟩ := g190
      rw [e1] at e190 h1
      obtain ⟨P2, e2, h2⟩ := g191
      rw [e2] at e191 h2
      go_simp
      exact hK _ _ (keeps_refl _) hI ⟨.slice (some ⟨P1, 0, none⟩) 2 2, .slice (some ⟨P2, 0, none⟩) 2 2, rfl, h1, h2, ⟨_, _, _, rfl, Nat.le_refl _⟩, ⟨_, _, _, rfl, Nat.le_refl _⟩⟩
    · intro _ a w1 vs hI ho hn hu K hK
      have e1 : a.tmps[1]? = some (.pointer (some ⟨bc, 0, none⟩)) := ho 1 rfl
      clear hn ho hu
      have c0 := keeps_cell hI A0.out
      have c1 := keeps_cell hI A1.out
      go_simp
      exact hK _ _ (keeps_refl _) hI rfl
    · intro _ a w1 vs hI ho hn hu K hK
      clear hn ho hu
      go_simp
      exact hK _ _ (kal _ _) (Keeps.trans hI (kal _ _)) ⟨_, rfl, intsAt_lit w1 [0, 1] 2 2 rfl (by omega)⟩
    · intro _ a w1 vs hI ho hn hu K hK
      have e19 : a.tmps[19]? = some (.slice (some ⟨bl, ol, none⟩) 3 ql) := ho 19 rfl
      clear hn ho hu
      go_simp
      exact hK _ _ (keeps_refl _) hI rfl
    · intro _ a w1 vs hI ho hn hu K hK
      obtain ⟨e195, g195⟩ : a.tmps[195]? = some (vs 48) ∧ vs 48 = .slice (some ⟨bl, ol, none⟩) 3 ql := hn 48 (by decide)
      rw [g195] at e195
      clear g195
      clear hn ho hu
      go_simp
      exact hK _ _ (keeps_refl _) hI rfl
    · intro _ a w1 vs hI ho hn hu K hK
      obtain ⟨e196, g196⟩ : a.tmps[196]? = some (vs 49) ∧ vs 49 = .pointer (some ⟨bl, ol, none⟩) := hn 49 (by decide)
      rw [g196] at e196
      clear g196
      clear hn ho hu
      have c := keeps_cell hI L0.out
      go_simp
      exact hK _ _ (keeps_refl _) hI rfl
    · intro _ a w1 vs hI ho hn hu K hK
      obtain ⟨e197, g197⟩ : a.tmps[197]? = some (vs 50) ∧ vs 50 = .string l0 := hn 50 (by decide)
      rw [g197] at e197
      clear g197
      clear hn ho hu
      go_simp
      exact hK _ _ (kal _ _) (Keeps.trans hI (kal _ _)) ⟨_, rfl, textsAt_lit w1 [l0, ⟨#[0, 3, 97, 98, 99, 100]⟩] 2 2 rfl (by omega)⟩
    · intro _ a w1 vs hI ho hn hu K hK
      obtain ⟨e193, g193⟩ : a.tmps[193]? = some (vs 46) ∧ vs 46 = .agg #[.int .i64 2, .int .i64 3] := hn 46 (by decide)
      rw [g193] at e193
      clear g193
      obtain ⟨e194, g194⟩ : a.tmps[194]? = some (vs 47) ∧ ∃ B, (vs 47) = .slice (some ⟨B, 0, none⟩) 2 2 ∧ SeqAt IsInt w1.heap (vs 47) [0, 1] := hn 47 (by decide)
      obtain ⟨e198, g198⟩ : a.tmps[198]? = some (vs 51) ∧ ∃ B, (vs 51) = .slice (some ⟨B, 0, none⟩) 2 2 ∧ TextsAt w1.heap (vs 51) [l0, ⟨#[0, 3, 97, 98, 99, 100]⟩] := hn 51 (by decide)
      clear hn ho hu
      obtain ⟨P1, e1, h1⟩ := g194
      rw [e1] at e194 h1
      obtain ⟨P2, e2, h2⟩ := g198
      rw [e2] at e198 h2
      go_simp
      exact hK _ _ (keeps_refl _) hI ⟨.slice (some ⟨P1, 0, none⟩) 2 2, .slice (some ⟨P2, 0, none⟩) 2 2, rfl, h1, h2, ⟨_, _, _, rfl, Nat.le_refl _⟩, ⟨_, _, _, rfl, Nat.le_refl _⟩⟩
    · intro _ a w1 vs hI ho hn hu K hK
      have e1 : a.tmps[1]? = some (.pointer (some ⟨bc, 0, none⟩)) := ho 1 rfl
      clear hn ho hu
      have c0 := keeps_cell hI A0.out
      have c1 := keeps_cell hI A1.out
      go_simp
      exact hK _ _ (keeps_refl _) hI rfl
    · intro _ a w1 vs hI ho hn hu K hK
      clear hn ho hu
      go_simp
      exact hK _ _ (kal _ _) (Keeps.trans hI (kal _ _)) ⟨_, rfl, intsAt_lit w1 [0, 1] 2 2 rfl (by omega)⟩
    · intro _ a w1 vs hI ho hn hu K hK
      have e19 : a.tmps[19]? = some (.slice (some ⟨bl, ol, none⟩) 3 ql) := ho 19 rfl
      clear hn ho hu
      go_simp
      exact hK _ _ (keeps_refl _) hI rfl
    · intro _ a w1 vs hI ho hn hu K hK
      obtain ⟨e202, g202⟩ : a.tmps[202]? = some (vs 55) ∧ vs 55 = .slice (some ⟨bl, ol, none⟩) 3 ql := hn 55 (by decide)
      rw [g202] at e202
      clear g202
      clear hn ho hu
      go_simp
      exact hK _ _ (keeps_refl _) hI rfl
    · intro _ a w1 vs hI ho hn hu K hK
      obtain ⟨e203, g203⟩ : a.tmps[203]? = some (vs 56) ∧ vs 56 = .pointer (some ⟨bl, ol, none⟩) := hn 56 (by decide)
      rw [g203] at e203
      clear g203
      clear hn ho hu
      have c := keeps_cell hI L0.out
      go_simp
      exact hK _ _ (keeps_refl _) hI rfl
    · intro _ a w1 vs hI ho hn hu K hK
      obtain ⟨e204, g204⟩ : a.tmps[204]? = some (vs 57) ∧ vs 57 = .string l0 := hn 57 (by decide)
      rw [g204] at e204
      clear g204
      clear hn ho hu
      go_simp
      exact hK _ _ (kal _ _) (Keeps.trans hI (kal _ _)) ⟨_, rfl, textsAt_lit w1 [l0, ⟨#[0, 2, 97, 98, 99, 0]⟩] 2 2 rfl (by omega)⟩
    · intro _ a w1 vs hI ho hn hu K hK
      obtain ⟨e200, g200⟩ : a.tmps[200]? = some (vs 53) ∧ vs 53 = .agg #[.int .i64 2, .int .i64 3] := hn 53 (by decide)
      rw [g200] at e200
      clear g200
      obtain ⟨e201, g201⟩ : a.tmps[201]? = some (vs 54) ∧ ∃ B, (vs 54) = .slice (some ⟨B, 0, none⟩) 2 2 ∧ SeqAt IsInt w1.heap (vs 54) [0, 1] := hn 54 (by decide)
      obtain ⟨e205, g205⟩ : a.tmps[205]? = some (vs 58) ∧ ∃ B, (vs 58) = .slice (some ⟨B, 0, none⟩) 2 2 ∧ TextsAt w1.heap (vs 58) [l0, ⟨#[0, 2, 97, 98, 99, 0]⟩] := hn 58 (by decide)
      clear hn ho hu
      obtain ⟨P1, e1, h1⟩ := g201
      rw [e1] at e201 h1
      obtain ⟨P2, e2, h2⟩ := g205
      rw [e2] at e205 h2
      go_simp
      exact hK _ _ (keeps_refl _) hI ⟨.slice (some ⟨P1, 0, none⟩) 2 2, .slice (some ⟨P2, 0, none⟩) 2 2, rfl, h1, h2, ⟨_, _, _, rfl, Nat.le_refl _⟩, ⟨_, _, _, rfl, Nat.le_refl _⟩⟩
    · intro _ a w1 vs hI ho hn hu K hK
      have e1 : a.tmps[1]? = some (.pointer (some ⟨bc, 0, none⟩)) := ho 1 rfl
      clear hn ho hu
      have c0 := keeps_cell hI A0.out
      have c1 := keeps_cell hI A1.out
      go_simp
      exact hK _ _ (keeps_refl _) hI rfl
    · intro _ a w1 vs hI ho hn hu K hK
      clear hn ho hu
      go_simp
      exact hK _ _ (kal _ _) (Keeps.trans hI (kal _ _)) ⟨_, rfl, intsAt_lit w1 [0, 1] 2 2 rfl (by omega)⟩
    · intro _ a w1 vs hI ho hn hu K hK
      have e19 : a.tmps[19]? = some (.slice (some ⟨bl, ol, none⟩) 3 ql) := ho 19 rfl
      clear hn ho hu
      go_simp
      exact hK _ _ (keeps_refl _) hI rfl
    · intro _ a w1 vs hI ho hn hu K hK
      obtain ⟨e209, g209⟩ : a.tmps[209]? = some (vs 62) ∧ vs 62 = .slice (some ⟨bl, ol, none⟩) 3 ql := hn 62 (by decide)
      rw [g209] at e209
      clear g209
      clear hn ho hu
      go_simp
      exact hK _ _ (keeps_refl _) hI rfl
    · intro _ a w1 vs hI ho hn hu K hK
      obtain ⟨e210, g210⟩ : a.tmps[210]? = some (vs 63) ∧ vs 63 = .pointer (some ⟨bl, ol, none⟩) := hn 63 (by decide)
      rw [g210] at e210
      clear g210
      clear hn ho hu
      have c := keeps_cell hI L0.out
      go_simp
      exact hK _ _ (keeps_refl _) hI rfl
    · intro _ a w1 vs hI ho hn hu K hK
      obtain ⟨e211, g211⟩ : a.tmps[211]? = some (vs 64) ∧ vs 64 = .string l0 := hn 64 (by decide)
      rw [g211] at e211
      clear g211
      clear hn ho hu
      go_simp
      exact hK _ _ (kal _ _) (Keeps.trans hI (kal _ _)) ⟨_, rfl, textsAt_lit w1 [l0, ⟨#[0, 5, 97, 98, 99, 0]⟩] 2 2 rfl (by omega)⟩
    · intro _ a w1 vs hI ho hn hu K hK
      obtain ⟨e207, g207⟩ : a.tmps[207]? = some (vs 60) ∧ vs 60 = .agg #[.int .i64 2, .int .i64 3] := hn 60 (by decide)
      rw [g207] at e207
      clear g207
      obtain ⟨e208, g208⟩ : a.tmps[208]? = some (vs 61) ∧ ∃ B, (vs 61) = .slice (some ⟨B, 0, none⟩) 2 2 ∧ SeqAt IsInt w1.heap (vs 61) [0, 1] := hn 61 (by decide)
      obtain ⟨e212, g212⟩ : a.tmps[212]? = some (vs 65) ∧ ∃ B, (vs 65) = .slice (some ⟨B, 0, none⟩) 2 2 ∧ TextsAt w1.heap (vs 65) [l0, ⟨#[0, 5, 97, 98, 99, 0]⟩] := hn 65 (by decide)
      clear hn ho hu
      obtain ⟨P1, e1, h1⟩ := g208
      rw [e1] at e208 h1
      obtain ⟨P2, e2, h2⟩ := g212
      rw [e2] at e212 h2
      go_simp
      exact hK _ _ (keeps_refl _) hI ⟨.slice (some ⟨P1, 0, none⟩) 2 2, .slice (some ⟨P2, 0, none⟩) 2 2, rfl, h1, h2, ⟨_, _, _, rfl, Nat.le_refl _⟩, ⟨_, _, _, rfl, Nat.le_refl _⟩⟩
    · intro _ a w1 vs hI ho hn hu K hK
      have e1 : a.tmps[1]? = some (.pointer (some ⟨bc, 0, none⟩)) := ho 1 rfl
      clear hn ho hu
      have c0 := keeps_cell hI A0.out
      have c1 := keeps_cell hI A1.out
      go_simp
      exact hK _ _ (keeps_refl _) hI rfl
    · intro _ a w1 vs hI ho hn hu K hK
      clear hn ho hu
      go_simp
      exact hK _ _ (kal _ _) (Keeps.trans hI (kal _ _)) ⟨_, rfl, intsAt_lit w1 [0, 1] 2 2 rfl (by omega)⟩
    · intro _ a w1 vs hI ho hn hu K hK
      have e19 : a.tmps[19]? = some (.slice (some ⟨bl, ol, none⟩) 3 ql) := ho 19 rfl
      clear hn ho hu
      go_simp
      exact hK _ _ (keeps_refl _) hI rfl
    · intro _ a w1 vs hI ho hn hu K hK
      obtain ⟨e216, g216⟩ : a.tmps[216]? = some (vs 69) ∧ vs 69 = .slice (some ⟨bl, ol, none⟩) 3 ql := hn 69 (by decide)
      rw [g216] at e216
      clear g216
      clear hn ho hu
      go_simp
      exact hK _ _ (keeps_refl _) hI rfl
    · intro _ a w1 vs hI ho hn hu K hK
      obtain ⟨e217, g217⟩ : a.tmps[217]? = some (vs 70) ∧ vs 70 = .pointer (some ⟨bl, ol + 1, none⟩) := hn 70 (by decide)
      rw [g217] at e217
      clear g217
      clear hn ho hu
      have c := keeps_cell hI L1.out
      go_simp
      exact hK _ _ (keeps_refl _) hI rfl
    · intro _ a w1 vs hI ho hn hu K hK
      obtain ⟨e218, g218⟩ : a.tmps[218]? = some (vs 71) ∧ vs 71 = .string l1 := hn 71 (by decide)
      rw [g218] at e218
      clear g218
      clear hn ho hu
      go_simp
      exact hK _ _ (kal _ _) (Keeps.trans hI (kal _ _)) ⟨_, rfl, textsAt_lit w1 [⟨#[0, 0, 0, 0, 0, 1]⟩, l1] 2 2 rfl (by omega)⟩
    · intro _ a w1 vs hI ho hn hu K hK
      obtain ⟨e214, g214⟩ : a.tmps[214]? = some (vs 67) ∧ vs 67 = .agg #[.int .i64 2, .int .i64 3] := hn 67 (by decide)
      rw [g214] at e214
      clear g214
      obtain ⟨e215, g215⟩ : a.tmps[215]? = some (vs 68) ∧ ∃ B, (vs 68) = .slice (some ⟨B, 0, none⟩) 2 2 ∧ SeqAt IsInt w1.heap (vs 68) [0, 1] := hn 68 (by decide)
      obtain ⟨e219, g219⟩ : a.tmps[219]? = some (vs 72) ∧ ∃ B, (vs 72) = .slice (some ⟨B, 0, none⟩) 2 2 ∧ TextsAt w1.heap (vs 72) [⟨#[0, 0, 0, 0, 0, 1]⟩, l1] := hn 72 (by decide)
      clear hn ho hu
      obtain ⟨P1, e1, h1⟩ := g215
      rw [e1] at e215 h1
      obtain ⟨P2, e2, h2⟩ := g219
      rw [e2] at e219 h2
      go_simp
      exact hK _ _ (keeps_refl _) hI ⟨.slice (some ⟨P1, 0, none⟩) 2 2, .slice (some ⟨P2, 0, none⟩) 2 2, rfl, h1, h2, ⟨_, _, _, rfl, Nat.le_refl _⟩, ⟨_, _, _, rfl, Nat.le_refl _⟩⟩
    · intro _ a w1 vs hI ho hn hu K hK
      have e1 : a.tmps[1]? = some (.pointer (some ⟨bc, 0, none⟩)) := ho 1 rfl
      clear hn ho hu
      have c0 := keeps_cell hI A0.out
      have c1 := keeps_cell hI A1.out
      go_simp
      exact hK _ _ (keeps_refl _) hI rfl
    · intro _ a w1 vs hI ho hn hu K hK
      clear hn ho hu
      go_simp
      exact hK _ _ (kal _ _) (Keeps.trans hI (kal _ _)) ⟨_, rfl, intsAt_lit w1 [0, 1] 2 2 rfl (by omega)⟩
    · intro _ a w1 vs hI ho hn hu K hK
      have e19 : a.tmps[19]? = some (.slice (some ⟨bl, ol, none⟩) 3 ql) := ho 19 rfl
      clear hn ho hu
      go_simp
      exact hK _ _ (keeps_refl _) hI rfl
    · intro _ a w1 vs hI ho hn hu K hK
      obtain ⟨e223, g223⟩ : a.tmps[223]? = some (vs 76) ∧ vs 76 = .slice (some ⟨bl, ol, none⟩) 3 ql := hn 76 (by decide)
      rw [g223] at e223
      clear g223
      clear hn ho hu
      go_simp
      exact hK _ _ (keeps_refl _) hI rfl
    · intro _ a w1 vs hI ho hn hu K hK
      obtain ⟨e224, g224⟩ : a.tmps[224]? = some (vs 77) ∧ vs 77 = .pointer (some ⟨bl, ol + 1, none⟩) := hn 77 (by decide)
      rw [g224] at e224
      clear g224
      clear hn ho hu
      have c := keeps_cell hI L1.out
      go_simp
      exact hK _ _ (keeps_refl _) hI rfl
    · intro _ a w1 vs hI ho hn hu K hK
      obtain ⟨e225, g225⟩ : a.tmps[225]? = some (vs 78) ∧ vs 78 = .string l1 := hn 78 (by decide)
      rw [g225] at e225
      clear g225
      clear hn ho hu
      go_simp
      exact hK _ _ (kal _ _) (Keeps.trans hI (kal _ _)) ⟨_, rfl, textsAt_lit w1 [⟨#[128, 0, 0, 0, 0, 0]⟩, l1] 2 2 rfl (by omega)⟩
    · intro _ a w1 vs hI ho hn hu K hK
      obtain ⟨e221, g221⟩ : a.tmps[221]? = some (vs 74) ∧ vs 74 = .agg #[.int .i64 2, .int .i64 3] := hn 74 (by decide)
      rw [g221] at e221
      clear g221
      obtain ⟨e222, g222⟩ : a.tmps[222]? = some (vs 75) ∧ ∃ B, (vs 75) = .slice (some ⟨B, 0, none⟩) 2 2 ∧ SeqAt IsInt w1.heap (vs 75) [0, 1] := hn 75 (by decide)
      obtain ⟨e226, g226⟩ : a.tmps[226]? = some (vs 79) ∧ ∃ B, (vs 79) = .slice (some ⟨B, 0, none⟩) 2 2 ∧ TextsAt w1.heap (vs 79) [⟨#[128, 0, 0, 0, 0, 0]⟩, l1] := hn 79 (by decide)
      clear hn ho hu
      obtain ⟨P1, e1, h1⟩ := g222
      rw [e1] at e222 h1
      obtain ⟨P2, e2, h2⟩ := g226
      rw [e2] at e226 h2
      go_simp
      exact hK _ _ (keeps_refl _) hI ⟨.slice (some ⟨P1, 0, none⟩) 2 2, .slice (some ⟨P2, 0, none⟩) 2 2, rfl, h1, h2, ⟨_, _, _, rfl, Nat.le_refl _⟩, ⟨_, _, _, rfl, Nat.le_refl _⟩⟩
    · intro _ a w1 vs hI ho hn hu K hK
      have e1 : a.tmps[1]? = some (.pointer (some ⟨bc, 0, none⟩)) := ho 1 rfl
      clear hn ho hu
      have c0 := keeps_cell hI A0.out
      have c1 := keeps_cell hI A1.out
      go_simp
      exact hK _ _ (keeps_refl _) hI rfl
    · intro _ a w1 vs hI ho hn hu K hK
      clear hn ho hu
      go_simp
      exact hK _ _ (kal _ _) (Keeps.trans hI (kal _ _)) ⟨_, rfl, intsAt_lit w1 [0, 1] 2 2 rfl (by omega)⟩
    · intro _ a w1 vs hI ho hn hu K hK
      have e19 : a.tmps[19]? = some (.slice (some ⟨bl, ol, none⟩) 3 ql) := ho 19 rfl
      clear hn ho hu
      go_simp
      exact hK _ _ (keeps_refl _) hI rfl
    · intro _ a w1 vs hI ho hn hu K hK
      obtain ⟨e230, g230⟩ : a.tmps[230]? = some (vs 83) ∧ vs 83 = .slice (some ⟨bl, ol, none⟩) 3 ql := hn 83 (by decide)
      rw [g230] at e230
      clear g230
      clear hn ho hu
      go_simp
      exact hK _ _ (keeps_refl _) hI rfl
    · intro _ a w1 vs hI ho hn hu K hK
      obtain ⟨e231, g231⟩ : a.tmps[231]? = some (vs 84) ∧ vs 84 = .pointer (some ⟨bl, ol, none⟩) := hn 84 (by decide)
      rw [g231] at e231
      clear g231
      clear hn ho hu
      have c := keeps_cell hI L0.out
      go_simp
      exact hK _ _ (keeps_refl _) hI rfl
    · intro _ a w1 vs hI ho hn hu K hK
      obtain ⟨e232, g232⟩ : a.tmps[232]? = some (vs 85) ∧ vs 85 = .string l0 := hn 85 (by decide)
      rw [g232] at e232
      clear g232
      clear hn ho hu
      have hs : (9223372036854775807 < l0.size + 1) = False := L0S.out
      go_simp
      exact hK _ _ (keeps_refl _) hI rfl
    · intro _ a w1 vs hI ho hn hu K hK
      have e19 : a.tmps[19]? = some (.slice (some ⟨bl, ol, none⟩) 3 ql) := ho 19 rfl
      clear hn ho hu
      go_simp
      exact hK _ _ (keeps_refl _) hI rfl
    · intro _ a w1 vs hI ho hn hu K hK
      obtain ⟨e234, g234⟩ : a.tmps[234]? = some (vs 87) ∧ vs 87 = .slice (some ⟨bl, ol, none⟩) 3 ql := hn 87 (by decide)
      rw [g234] at e234
      clear g234
      clear hn ho hu
      go_simp
      exact hK _ _ (keeps_refl _) hI rfl
    · intro _ a w1 vs hI ho hn hu K hK
      obtain ⟨e235, g235⟩ : a.tmps[235]? = some (vs 88) ∧ vs 88 = .pointer (some ⟨bl, ol + 1, none⟩) := hn 88 (by decide)
      rw [g235] at e235
      clear g235
      clear hn ho hu
      have c := keeps_cell hI L1.out
      go_simp
      exact hK _ _ (keeps_refl _) hI rfl
    · intro _ a w1 vs hI ho hn hu K hK
      obtain ⟨e236, g236⟩ : a.tmps[236]? = some (vs 89) ∧ vs 89 = .string l1 := hn 89 (by decide)
      rw [g236] at e236
      clear g236
      clear hn ho hu
      have hs : (9223372036854775807 < l1.size + 1) = False := L1S.out
      go_simp
      exact hK _ _ (keeps_refl _) hI rfl
    · intro _ a w1 vs hI ho hn hu K hK
      obtain ⟨e233, g233⟩ : a.tmps[233]? = some (vs 86) ∧ vs 86 = .string (l0 ++ (⟨#[0]⟩ : ByteArray)) := hn 86 (by decide)
      rw [g233] at e233
      clear g233
      obtain ⟨e237, g237⟩ : a.tmps[237]? = some (vs 90) ∧ vs 90 = .string (l1 ++ (⟨#[0]⟩ : ByteArray)) := hn 90 (by decide)
      rw [g237] at e237
      clear g237
      clear hn ho hu
      go_simp
      exact hK _ _ (kal _ _) (Keeps.trans hI (kal _ _)) ⟨_, rfl, textsAt_lit w1 [(l0 ++ (⟨#[0]⟩ : ByteArray)), (l1 ++ (⟨#[0]⟩ : ByteArray))] 2 2 rfl (by omega)⟩
    · intro _ a w1 vs hI ho hn hu K hK
      obtain ⟨e228, g228⟩ : a.tmps[228]? = some (vs 81) ∧ vs 81 = .agg #[.int .i64 2, .int .i64 3] := hn 81 (by decide)
      rw [g228] at e228
      clear g228
      obtain ⟨e229, g229⟩ : a.tmps[229]? = some (vs 82) ∧ ∃ B, (vs 82) = .slice (some ⟨B, 0, none⟩) 2 2 ∧ SeqAt IsInt w1.heap (vs 82) [0, 1] := hn 82 (by decide)
      obtain ⟨e238, g238⟩ : a.tmps[238]? = some (vs 91) ∧ ∃ B, (vs 91) = .slice (some ⟨B, 0, none⟩) 2 2 ∧ TextsAt w1.heap (vs 91) [(l0 ++ (⟨#[0]⟩ : ByteArray)), (l1 ++ (⟨#[0]⟩ : ByteArray))] := hn 91 (by decide)
      clear hn ho hu
      obtain ⟨P1, e1, h1⟩ := g229
      rw [e1] at e229 h1
      obtain ⟨P2, e2, h2⟩ := g238
      rw [e2] at e238 h2
      go_simp
      exact hK _ _ (keeps_refl _) hI ⟨.slice (some ⟨P1, 0, none⟩) 2 2, .slice (some ⟨P2, 0, none⟩) 2 2, rfl, h1, h2, ⟨_, _, _, rfl, Nat.le_refl _⟩, ⟨_, _, _, rfl, Nat.le_refl _⟩⟩
    · intro _ a w1 vs hI ho hn hu K hK
      have e1 : a.tmps[1]? = some (.pointer (some ⟨bc, 0, none⟩)) := ho 1 rfl
      clear hn ho hu
      have c0 := keeps_cell hI A0.out
      have c1 := keeps_cell hI A1.out
      go_simp
      exact hK _ _ (keeps_refl _) hI rfl
    · intro _ a w1 vs hI ho hn hu K hK
      clear hn ho hu
      go_simp
      exact hK _ _ (kal _ _) (Keeps.trans hI (kal _ _)) ⟨_, rfl, intsAt_lit w1 [0, 1] 2 2 rfl (by omega)⟩
    · intro _ a w1 vs hI ho hn hu K hK
      clear hn ho hu
      go_simp
      exact hK _ _ (kal _ _) (Keeps.trans hI (kal _ _)) ⟨_, rfl, textsAt_lit w1 [⟨#[0, 0, 0, 0, 0, 0, 0]⟩, ⟨#[3, 97, 98, 99, 0, 0, 0]⟩] 2 2 rfl (by omega)⟩
    · intro _ a w1 vs hI ho hn hu K hK
      obtain ⟨e240, g240⟩ : a.tmps[240]? = some (vs 93) ∧ vs 93 = .agg #[.int .i64 2, .int .i64 3] := hn 93 (by decide)
      rw [g240] at e240
      clear g240
      obtain ⟨e241, g241⟩ : a.tmps[241]? = some (vs 94) ∧ ∃ B, (vs 94) = .slice (some ⟨B, 0, none⟩) 2 2 ∧ SeqAt IsInt w1.heap (vs 94) [0, 1] := hn 94 (by decide)
      obtain ⟨e242, g242⟩ : a.tmps[242]? = some (vs 95) ∧ ∃ B, (vs 95) = .slice (some ⟨B, 0, none⟩) 2 2 ∧ TextsAt w1.heap (vs 95) [⟨#[0, 0, 0, 0, 0, 0, 0]⟩, ⟨#[3, 97, 98, 99, 0, 0, 0]⟩] := hn 95 (by decide)
      clear hn ho hu
      obtain ⟨P1, e1, h1⟩ := g241
      rw [e1] at e241 h1
      obtain ⟨P2, e2, h2⟩ := g242
      rw [e2] at e242 h2
      go_simp
      exact hK _ _ (keeps_refl _) hI ⟨.slice (some ⟨P1, 0, none⟩) 2 2, .slice (some ⟨P2, 0, none⟩) 2 2, rfl, h1, h2, ⟨_, _, _, rfl, Nat.le_refl _⟩, ⟨_, _, _, rfl, Nat.le_refl _⟩⟩
    · intro _ a w1 vs hI ho hn hu K hK
      have e1 : a.tmps[1]? = some (.pointer (some ⟨bc, 0, none⟩)) := ho 1 rfl
      clear hn ho hu
      have c0 := keeps_cell hI A0.out
      have c1 := keeps_cell hI A1.out
      go_simp
      exact hK _ _ (keeps_refl _) hI rfl
    · intro _ a w1 vs hI ho hn hu K hK
      clear hn ho hu
      go_simp
      exact hK _ _ (kal _ _) (Keeps.trans hI (kal _ _)) ⟨_, rfl, intsAt_lit w1 [1, 0] 2 2 rfl (by omega)⟩
    · intro _ a w1 vs hI ho hn hu K hK
      have e19 : a.tmps[19]? = some (.slice (some ⟨bl, ol, none⟩) 3 ql) := ho 19 rfl
      clear hn ho hu
      go_simp
      exact hK _ _ (keeps_refl _) hI rfl
    · intro _ a w1 vs hI ho hn hu K hK
      obtain ⟨e246, g246⟩ : a.tmps[246]? = some (vs 99) ∧ vs 99 = .slice (some ⟨bl, ol, none⟩) 3 ql := hn 99 (by decide)
      rw [g246] at e246
      clear g246
      clear hn ho hu
      go_simp
      exact hK _ _ (keeps_refl _) hI rfl
    · intro _ a w1 vs hI ho hn hu K hK
      obtain ⟨e247, g247⟩ : a.tmps[247]? = some (vs 100) ∧ vs 100 = .pointer (some ⟨bl, ol + 1, none⟩) := hn 100 (by decide)
      rw [g247] at e247
      clear g247
      clear hn ho hu
      have c := keeps_cell hI L1.out
      go_simp
      exact hK _ _ (keeps_refl _) hI rfl
    · intro _ a w1 vs hI ho hn hu K hK
      have e19 : a.tmps[19]? = some (.slice (some ⟨bl, ol, none⟩) 3 ql) := ho 19 rfl
      clear hn ho hu
      go_simp
      exact hK _ _ (keeps_refl _) hI rfl
    · intro _ a w1 vs hI ho hn hu K hK
      obtain ⟨e249, g249⟩ : a.tmps[249]? = some (vs 102) ∧ vs 102 = .slice (some ⟨bl, ol, none⟩) 3 ql := hn 102 (by decide)
      rw [g249] at e249
      clear g249
      clear hn ho hu
      go_simp
      exact hK _ _ (keeps_refl _) hI rfl
    · intro _ a w1 vs hI ho hn hu K hK
      obtain ⟨e250, g250⟩ : a.tmps[250]? = some (vs 103) ∧ vs 103 = .pointer (some ⟨bl, ol, none⟩) := hn 103 (by decide)
      rw [g250] at e250
      clear g250
      clear hn ho hu
      have c := keeps_cell hI L0.out
      go_simp
      exact hK _ _ (keeps_refl _) hI rfl
    · intro _ a w1 vs hI ho hn hu K hK
      obtain ⟨e248, g248⟩ : a.tmps[248]? = some (vs 101) ∧ vs 101 = .string l1 := hn 101 (by decide)
      rw [g248] at e248
      clear g248
      obtain ⟨e251, g251⟩ : a.tmps[251]? = some (vs 104) ∧ vs 104 = .string l0 := hn 104 (by decide)
      rw [g251] at e251
      clear g251
      clear hn ho hu
      go_simp
      exact hK _ _ (kal _ _) (Keeps.trans hI (kal _ _)) ⟨_, rfl, textsAt_lit w1 [l1, l0] 2 2 rfl (by omega)⟩
    · intro _ a w1 vs hI ho hn hu K hK
      obtain ⟨e244, g244⟩ : a.tmps[244]? = some (vs 97) ∧ vs 97 = .agg #[.int .i64 2, .int .i64 3] := hn 97 (by decide)
      rw [g244] at e244
      clear g244
      obtain ⟨e245, g245⟩ : a.tmps[245]? = some (vs 98) ∧ ∃ B, (vs 98) = .slice (some ⟨B, 0, none⟩) 2 2 ∧ SeqAt IsInt w1.heap (vs 98) [1, 0] := hn 98 (by decide)
      obtain ⟨e252, g252⟩ : a.tmps[252]? = some (vs 105) ∧ ∃ B, (vs 105) = .slice (some ⟨B, 0, none⟩) 2 2 ∧ TextsAt w1.heap (vs 105) [l1, l0] := hn 105 (by decide)
      clear hn ho hu
      obtain ⟨P1, e1, h1⟩ := g245
      rw [e1] at e245 h1
      obtain ⟨P2, e2, h2⟩ := g252
      rw [e2] at e252 h2
      go_simp
      exact hK _ _ (keeps_refl _) hI ⟨.slice (some ⟨P1, 0, none⟩) 2 2, .slice (some ⟨P2, 0, none⟩) 2 2, rfl, h1, h2, ⟨_, _, _, rfl, Nat.le_refl _⟩, ⟨_, _, _, rfl, Nat.le_refl _⟩⟩
    · intro _ a w1 vs hI ho hn hu K hK
      have e1 : a.tmps[1]? = some (.pointer (some ⟨bc, 0, none⟩)) := ho 1 rfl
      clear hn ho hu
      have c0 := keeps_cell hI A0.out
      have c1 := keeps_cell hI A1.out
      go_simp
      exact hK _ _ (keeps_refl _) hI rfl
    · intro _ a w1 vs hI ho hn hu K hK
      clear hn ho hu
      go_simp
      exact hK _ _ (kal _ _) (Keeps.trans hI (kal _ _)) ⟨_, rfl, intsAt_lit w1 [2, 0] 2 2 rfl (by omega)⟩
    · intro _ a w1 vs hI ho hn hu K hK
      have e19 : a.tmps[19]? = some (.slice (some ⟨bl, ol, none⟩) 3 ql) := ho 19 rfl
      clear hn ho hu
      go_simp
      exact hK _ _ (keeps_refl _) hI rfl
    · intro _ a w1 vs hI ho hn hu K hK
      obtain ⟨e256, g256⟩ : a.tmps[256]? = some (vs 109) ∧ vs 109 = .slice (some ⟨bl, ol, none⟩) 3 ql := hn 109 (by decide)
      rw [g256] at e256
      clear g256
      clear hn ho hu
      go_simp
      exact hK _ _ (keeps_refl _) hI rfl
    · intro _ a w1 vs hI ho hn hu K hK
      obtain ⟨e257, g257⟩ : a.tmps[257]? = some (vs 110) ∧ vs 110 = .pointer (some ⟨bl, ol + 2, none⟩) := hn 110 (by decide)
      rw [g257] at e257
      clear g257
      clear hn ho hu
      have c := keeps_cell hI L2.out
      go_simp
      exact hK _ _ (keeps_refl _) hI rfl
    · intro _ a w1 vs hI ho hn hu K hK
      have e19 : a.tmps[19]? = some (.slice (some ⟨bl, ol, none⟩) 3 ql) := ho 19 rfl
      clear hn ho hu
      go_simp
      exact hK _ _ (keeps_refl _) hI rfl
    · intro _ a w1 vs hI ho hn hu K hK
      obtain ⟨e259, g259⟩ : a.tmps[259]? = some (vs 112) ∧ vs 112 = .slice (some ⟨bl, ol, none⟩) 3 ql := hn 112 (by decide)
      rw [g259] at e259
      clear g259
      clear hn ho hu
      go_simp
      exact hK _ _ (keeps_refl _) hI rfl
    · intro _ a w1 vs hI ho hn hu K hK
      obtain ⟨e260, g260⟩ : a.tmps[260]? = some (vs 113) ∧ vs 113 = .pointer (some ⟨bl, ol, none⟩) := hn 113 (by decide)
      rw [g260] at e260
      clear g260
      clear hn ho hu
      have c := keeps_cell hI L0.out
      go_simp
      exact hK _ _ (keeps_refl _) hI rfl
    · intro _ a w1 vs hI ho hn hu K hK
      obtain ⟨e258, g258⟩ : a.tmps[258]? = some (vs 111) ∧ vs 111 = .string l2 := hn 111 (by decide)
      rw [g258] at e258
      clear g258
      obtain ⟨e261, g261⟩ : a.tmps[261]? = some (vs 114) ∧ vs 114 = .string l0 := hn 114 (by decide)
      rw [g261] at e261
      clear g261
      clear hn ho hu
      go_simp
      exact hK _ _ (kal _ _) (Keeps.trans hI (kal _ _)) ⟨_, rfl, textsAt_lit w1 [l2, l0] 2 2 rfl (by omega)⟩
    · intro _ a w1 vs hI ho hn hu K hK
      obtain ⟨e254, g254⟩ : a.tmps[254]? = some (vs 107) ∧ vs 107 = .agg #[.int .i64 2, .int .i64 3] := hn 107 (by decide)
      rw [g254] at e254
      clear g254
      obtain ⟨e255, g255⟩ : a.tmps[255]? = some (vs 108) ∧ ∃ B, (vs 108) = .slice (some ⟨B, 0, none⟩) 2 2 ∧ SeqAt IsInt w1.heap (vs 108) [2, 0] := hn 108 (by decide)
      obtain ⟨e262, g262⟩ : a.tmps[262]? = some (vs 115) ∧ ∃ B, (vs 115) = .slice (some ⟨B, 0, none⟩) 2 2 ∧ TextsAt w1.heap (vs 115) [l2, l0] := hn 115 (by decide)
      clear hn ho hu
      obtain ⟨P1, e1, h1⟩ := g255
      rw [e1] at e255 h1
      obtain ⟨P2, e2, h2⟩ := g262
      rw [e2] at e262 h2
      go_simp
      exact hK _ _ (keeps_refl _) hI ⟨.slice (some ⟨P1, 0, none⟩) 2 2, .slice (some ⟨P2, 0, none⟩) 2 2, rfl, h1, h2, ⟨_, _, _, rfl, Nat.le_refl _⟩, ⟨_, _, _, rfl, Nat.le_refl _⟩⟩
    · intro _ a w1 vs hI ho hn hu K hK
      have e1 : a.tmps[1]? = some (.pointer (some ⟨bc, 0, none⟩)) := ho 1 rfl
      clear hn ho hu
      have c0 := keeps_cell hI A0.out
      have c1 := keeps_cell hI A1.out
      go_simp
      exact hK _ _ (keeps_refl _) hI rfl
    · intro _ a w1 vs hI ho hn hu K hK
      clear hn ho hu
      go_simp
      exact hK _ _ (kal _ _) (Keeps.trans hI (kal _ _)) ⟨_, rfl, intsAt_lit w1 [2, 1, 0] 3 3 rfl (by omega)⟩
    · intro _ a w1 vs hI ho hn hu K hK
      have e19 : a.tmps[19]? = some (.slice (some ⟨bl, ol, none⟩) 3 ql) := ho 19 rfl
      clear hn ho hu
      go_simp
      exact hK _ _ (keeps_refl _) hI rfl
    · intro _ a w1 vs hI ho hn hu K hK
      obtain ⟨e266, g266⟩ : a.tmps[266]? = some (vs 119) ∧ vs 119 = .slice (some ⟨bl, ol, none⟩) 3 ql := hn 119 (by decide)
      rw [g266] at e266
      clear g266
      clear hn ho hu
      go_simp
      exact hK _ _ (keeps_refl _) hI rfl
    · intro _ a w1 vs hI ho hn hu K hK
      obtain ⟨e267, g267⟩ : a.tmps[267]? = some (vs 120) ∧ vs 120 = .pointer (some ⟨bl, ol + 2, none⟩) := hn 120 (by decide)
      rw [g267] at e267
      clear g267
      clear hn ho hu
      have c := keeps_cell hI L2.out
      go_simp
      exact hK _ _ (keeps_refl _) hI rfl
    · intro _ a w1 vs hI ho hn hu K hK
      have e19 : a.tmps[19]? = some (.slice (some ⟨bl, ol, none⟩) 3 ql) := ho 19 rfl
      clear hn ho hu
      go_simp
      exact hK _ _ (keeps_refl _) hI rfl
    · intro _ a w1 vs hI ho hn hu K hK
      obtain ⟨e269, g269⟩ : a.tmps[269]? = some (vs 122) ∧ vs 122 = .slice (some ⟨bl, ol, none⟩) 3 ql := hn 122 (by decide)
      rw [g269] at e269
      clear g269
      clear hn ho hu
      go_simp
      exact hK _ _ (keeps_refl _) hI rfl
    · intro _ a w1 vs hI ho hn hu K hK
      obtain ⟨e270, g270⟩ : a.tmps[270]? = some (vs 123) ∧ vs 123 = .pointer (some ⟨bl, ol + 1, none⟩) := hn 123 (by decide)
      rw [g270] at e270
      clear g270
      clear hn ho hu
      have c := keeps_cell hI L1.out
      go_simp
      exact hK _ _ (keeps_refl _) hI rfl
    · intro _ a w1 vs hI ho hn hu K hK
      have e19 : a.tmps[19]? = some (.slice (some ⟨bl, ol, none⟩) 3 ql) := ho 19 rfl
      clear hn ho hu
      go_simp
      exact hK _ _ (keeps_refl _) hI rfl
    · intro _ a w1 vs hI ho hn hu K hK
      obtain ⟨e272, g272⟩ : a.tmps[272]? = some (vs 125) ∧ vs 125 = .slice (some ⟨bl, ol, none⟩) 3 ql := hn 125 (by decide)
      rw [g272] at e272
      clear g272
      clear hn ho hu
      go_simp
      exact hK _ _ (keeps_refl _) hI rfl
    · intro _ a w1 vs hI ho hn hu K hK
      obtain ⟨e273, g273⟩ : a.tmps[273]? = some (vs 126) ∧ vs 126 = .pointer (some ⟨bl, ol, none⟩) := hn 126 (by decide)
      rw [g273] at e273
      clear g273
      clear hn ho hu
      have c := keeps_cell hI L0.out
      go_simp
      exact hK _ _ (keeps_refl _) hI rfl
    · intro _ a w1 vs hI ho hn hu K hK
      obtain ⟨e268, g268⟩ : a.tmps[268]? = some (vs 121) ∧ vs 121 = .string l2 := hn 121 (by decide)
      rw [g268] at e268
      clear g268
      obtain ⟨e271, g271⟩ : a.tmps[271]? = some (vs 124) ∧ vs 124 = .string l1 := hn 124 (by decide)
      rw [g271] at e271
      clear g271
      obtain ⟨e274, g274⟩ : a.tmps[274]? = some (vs 127) ∧ vs 127 = .string l0 := hn 127 (by decide)
      rw [g274] at e274
      clear g274
      clear hn ho hu
      go_simp
      exact hK _ _ (kal _ _) (Keeps.trans hI (kal _ _)) ⟨_, rfl, textsAt_lit w1 [l2, l1, l0] 3 3 rfl (by omega)⟩
    · intro _ a w1 vs hI ho hn hu K hK
      obtain ⟨e264, g264⟩ : a.tmps[264]? = some (vs 117) ∧ vs 117 = .agg #[.int .i64 2, .int .i64 3] := hn 117 (by decide)
      rw [g264] at e264
      clear g264
      obtain ⟨e265, g265⟩ : a.tmps[265]? = some (vs 118) ∧ ∃ B, (vs 118) = .slice (some ⟨B, 0, none⟩) 3 3 ∧ SeqAt IsInt w1.heap (vs 118) [2, 1, 0] := hn 118 (by decide)
      obtain ⟨e275, g275⟩ : a.tmps[275]? = some (vs 128) ∧ ∃ B, (vs 128) = .slice (some ⟨B, 0, none⟩) 3 3 ∧ TextsAt w1.heap (vs 128) [l2, l1, l0] := hn 128 (by decide)
      clear hn ho hu
      obtain ⟨P1, e1, h1⟩ := g265
      rw [e1] at e265 h1
      obtain ⟨P2, e2, h2⟩ := g275
      rw [e2] at e275 h2
      go_simp
      exact hK _ _ (keeps_refl _) hI ⟨.slice (some ⟨P1, 0, none⟩) 3 3, .slice (some ⟨P2, 0, none⟩) 3 3, rfl, h1, h2, ⟨_, _, _, rfl, Nat.le_refl _⟩, ⟨_, _, _, rfl, Nat.le_refl _⟩⟩
    · intro _ a w1 vs hI ho hn hu K hK
      have e1 : a.tmps[1]? = some (.pointer (some ⟨bc, 0, none⟩)) := ho 1 rfl
      clear hn ho hu
      have c0 := keeps_cell hI A0.out
      have c1 := keeps_cell hI A1.out
      go_simp
      exact hK _ _ (keeps_refl _) hI rfl
    · intro _ a w1 vs hI ho hn hu K hK
      clear hn ho hu
      go_simp
      exact hK _ _ (kal _ _) (Keeps.trans hI (kal _ _)) ⟨_, rfl, intsAt_lit w1 [2, 1, 0] 3 3 rfl (by omega)⟩
    · intro _ a w1 vs hI ho hn hu K hK
      have e19 : a.tmps[19]? = some (.slice (some ⟨bl, ol, none⟩) 3 ql) := ho 19 rfl
      clear hn ho hu
      go_simp
      exact hK _ _ (keeps_refl _) hI rfl
    · intro _ a w1 vs hI ho hn hu K hK
      obtain ⟨e279, g279⟩ : a.tmps[279]? = some (vs 132) ∧ vs 132 = .slice (some ⟨bl, ol, none⟩) 3 ql := hn 132 (by decide)
      rw [g279] at e279
      clear g279
      clear hn ho hu
      go_simp
      exact hK _ _ (keeps_refl _) hI rfl
    · intro _ a w1 vs hI ho hn hu K hK
      obtain ⟨e280, g280⟩ : a.tmps[280]? = some (vs 133) ∧ vs 133 = .pointer (some ⟨bl, ol + 2, none⟩) := hn 133 (by decide)
      rw [g280] at e280
      clear g280
      clear hn ho hu
      have c := keeps_cell hI L2.out
      go_simp
      exact hK _ _ (keeps_refl _) hI rfl
    · intro _ a w1 vs hI ho hn hu K hK
      have e19 : a.tmps[19]? = some (.slice (some ⟨bl, ol, none⟩) 3 ql) := ho 19 rfl
      clear hn ho hu
      go_simp
      exact hK _ _ (keeps_refl _) hI rfl
    · intro _ a w1 vs hI ho hn hu K hK
      obtain ⟨e282, g282⟩ : a.tmps[282]? = some (vs 135) ∧ vs 135 = .slice (some ⟨bl, ol, none⟩) 3 ql := hn 135 (by decide)
      rw [g282] at e282
      clear g282
      clear hn ho hu
      go_simp
      exact hK _ _ (keeps_refl _) hI rfl
    · intro _ a w1 vs hI ho hn hu K hK
      obtain ⟨e283, g283⟩ : a.tmps[283]? = some (vs 136) ∧ vs 136 = .pointer (some ⟨bl, ol + 1, none⟩) := hn 136 (by decide)
      rw [g283] at e283
      clear g283
      clear hn ho hu
      have c := keeps_cell hI L1.out
      go_simp
      exact hK _ _ (keeps_refl _) hI rfl
    · intro _ a w1 vs hI ho hn hu K hK
      have e19 : a.tmps[19]? = some (.slice (some ⟨bl, ol, none⟩) 3 ql) := ho 19 rfl
      clear hn ho hu
      go_simp
      exact hK _ _ (keeps_refl _) hI rfl
    · intro _ a w1 vs hI ho hn hu K hK
      obtain ⟨e285, g285⟩ : a.tmps[285]? = some (vs 138) ∧ vs 138 = .slice (some ⟨bl, ol, none⟩) 3 ql := hn 138 (by decide)
      rw [g285] at e285
      clear g285
      clear hn ho hu
      go_simp
      exact hK _ _ (keeps_refl _) hI rfl
    · intro _ a w1 vs hI ho hn hu K hK
      obtain ⟨e286, g286⟩ : a.tmps[286]? = some (vs 139) ∧ vs 139 = .pointer (some ⟨bl, ol + 1, none⟩) := hn 139 (by decide)
      rw [g286] at e286
      clear g286
      clear hn ho hu
      have c := keeps_cell hI L1.out
      go_simp
      exact hK _ _ (keeps_refl _) hI rfl
    · intro _ a w1 vs hI ho hn hu K hK
      obtain ⟨e281, g281⟩ : a.tmps[281]? = some (vs 134) ∧ vs 134 = .string l2 := hn 134 (by decide)
      rw [g281] at e281
      clear g281
      obtain ⟨e284, g284⟩ : a.tmps[284]? = some (vs 137) ∧ vs 137 = .string l1 := hn 137 (by decide)
      rw [g284] at e284
      clear g284
      obtain ⟨e287, g287⟩ : a.tmps[287]? = some (vs 140) ∧ vs 140 = .string l1 := hn 140 (by decide)
      rw [g287] at e287
      clear g287
      clear hn ho hu
      go_simp
      exact hK _ _ (kal _ _) (Keeps.trans hI (kal _ _)) ⟨_, rfl, textsAt_lit w1 [l2, l1, l1] 3 3 rfl (by omega)⟩
    · intro _ a w1 vs hI ho hn hu K hK
      obtain ⟨e277, g277⟩ : a.tmps[277]? = some (vs 130) ∧ vs 130 = .agg #[.int .i64 2, .int .i64 3] := hn 130 (by decide)
      rw [g277] at e277
      clear g277
      obtain ⟨e278, g278⟩ : a.tmps[278]? = some (vs 131) ∧ ∃ B, (vs 131) = .slice (some ⟨B, 0, none⟩) 3 3 ∧ SeqAt IsInt w1.heap (vs 131) [2, 1, 0] := hn 131 (by decide)
      obtain ⟨e288, g288⟩ : a.tmps[288]? = some (vs 141) ∧ ∃ B, (vs 141) = .slice (some ⟨B, 0, none⟩) 3 3 ∧ TextsAt w1.heap (vs 141) [l2, l1, l1] := hn 141 (by decide)
      clear hn ho hu
      obtain ⟨P1, e1, h1⟩ := g278
      rw [e1] at e278 h1
      obtain ⟨P2, e2, h2⟩ := g288
      rw [e2] at e288 h2
      go_simp
      exact hK _ _ (keeps_refl _) hI ⟨.slice (some ⟨P1, 0, none⟩) 3 3, .slice (some ⟨P2, 0, none⟩) 3 3, rfl, h1, h2, ⟨_, _, _, rfl, Nat.le_refl _⟩, ⟨_, _, _, rfl, Nat.le_refl _⟩⟩
    · intro _ a w1 vs hI ho hn hu K hK
      have e1 : a.tmps[1]? = some (.pointer (some ⟨bc, 0, none⟩)) := ho 1 rfl
      clear hn ho hu
      have c0 := keeps_cell hI A0.out
      have c1 := keeps_cell hI A1.out
      go_simp
      exact hK _ _ (keeps_refl _) hI rfl
    · intro _ a w1 vs hI ho hn hu K hK
      clear hn ho hu
      go_simp
      exact hK _ _ (kal _ _) (Keeps.trans hI (kal _ _)) ⟨_, rfl, intsAt_lit w1 [0, 1, 2] 3 3 rfl (by omega)⟩
    · intro _ a w1 vs hI ho hn hu K hK
      have e19 : a.tmps[19]? = some (.slice (some ⟨bl, ol, none⟩) 3 ql) := ho 19 rfl
      clear hn ho hu
      go_simp
      exact hK _ _ (keeps_refl _) hI rfl
    · intro _ a w1 vs hI ho hn hu K hK
      obtain ⟨e292, g292⟩ : a.tmps[292]? = some (vs 145) ∧ vs 145 = .slice (some ⟨bl, ol, none⟩) 3 ql := hn 145 (by decide)
      rw [g292] at e292
      clear g292
      clear hn ho hu
      go_simp
      exact hK _ _ (keeps_refl _) hI rfl
    · intro _ a w1 vs hI ho hn hu K hK
      obtain ⟨e293, g293⟩ : a.tmps[293]? = some (vs 146) ∧ vs 146 = .pointer (some ⟨bl, ol, none⟩) := hn 146 (by decide)
      rw [g293] at e293
      clear g293
      clear hn ho hu
      have c := keeps_cell hI L0.out
      go_simp
      exact hK _ _ (keeps_refl _) hI rfl
    · intro _ a w1 vs hI ho hn hu K hK
      have e19 : a.tmps[19]? = some (.slice (some ⟨bl, ol, none⟩) 3 ql) := ho 19 rfl
      clear hn ho hu
      go_simp
      exact hK _ _ (keeps_refl _) hI rfl
    · intro _ a w1 vs hI ho hn hu K hK
      obtain ⟨e295, g295⟩ : a.tmps[295]? = some (vs 148) ∧ vs 148 = .slice (some ⟨bl, ol, none⟩) 3 ql := hn 148 (by decide)
      rw [g295] at e295
      clear g295
      clear hn ho hu
      go_simp
      exact hK _ _ (keeps_refl _) hI rfl
    · intro _ a w1 vs hI ho hn hu K hK
      obtain ⟨e296, g296⟩ : a.tmps[296]? = some (vs 149) ∧ vs 149 = .pointer (some ⟨bl, ol + 1, none⟩) := hn 149 (by decide)
      rw [g296] at e296
      clear g296
      clear hn ho hu
      have c := keeps_cell hI L1.out
      go_simp
      exact hK _ _ (keeps_refl _) hI rfl
    · intro _ a w1 vs hI ho hn hu K hK
      have e19 : a.tmps[19]? = some (.slice (some ⟨bl, ol, none⟩) 3 ql) := ho 19 rfl
      clear hn ho hu
      go_simp
      exact hK _ _ (keeps_refl _) hI rfl
    · intro _ a w1 vs hI ho hn hu K hK
      obtain ⟨e298, g298⟩ : a.tmps[298]? = some (vs 151) ∧ vs 151 = .slice (some ⟨bl, ol, none⟩) 3 ql := hn 151 (by decide)
      rw [g298] at e298
      clear g298
      clear hn ho hu
      go_simp
      exact hK _ _ (keeps_refl _) hI rfl
    · intro _ a w1 vs hI ho hn hu K hK
      obtain ⟨e299, g299⟩ : a.tmps[299]? = some (vs 152) ∧ vs 152 = .pointer (some ⟨bl, ol + 1, none⟩) := hn 152 (by decide)
      rw [g299] at e299
      clear g299
      clear hn ho hu
      have c := keeps_cell hI L1.out
      go_simp
      exact hK _ _ (keeps_refl _) hI rfl
    · intro _ a w1 vs hI ho hn hu K hK
      obtain ⟨e294, g294⟩ : a.tmps[294]? = some (vs 147) ∧ vs 147 = .string l0 := hn 147 (by decide)
      rw [g294] at e294
      clear g294
      obtain ⟨e297, g297⟩ : a.tmps[297]? = some (vs 150) ∧ vs 150 = .string l1 := hn 150 (by decide)
      rw [g297] at e297
      clear g297
      obtain ⟨e300, g300⟩ : a.tmps[300]? = some (vs 153) ∧ vs 153 = .string l1 := hn 153 (by decide)
      rw [g300] at e300
      clear g300
      clear hn ho hu
      go_simp
      exact hK _ _ (kal _ _) (Keeps.trans hI (kal _ _)) ⟨_, rfl, textsAt_lit w1 [l0, l1, l1] 3 3 rfl (by omega)⟩
    · intro _ a w1 vs hI ho hn hu K hK
      obtain ⟨e290, g290⟩ : a.tmps[290]? = some (vs 143) ∧ vs 143 = .agg #[.int .i64 2, .int .i64 3] := hn 143 (by decide)
      rw [g290] at e290
      clear g290
      obtain ⟨e291, g291⟩ : a.tmps[291]? = some (vs 144) ∧ ∃ B, (vs 144) = .slice (some ⟨B, 0, none⟩) 3 3 ∧ SeqAt IsInt w1.heap (vs 144) [0, 1, 2] := hn 144 (by decide)
      obtain ⟨e301, g301⟩ : a.tmps[301]? = some (vs 154) ∧ ∃ B, (vs 154) = .slice (some ⟨B, 0, none⟩) 3 3 ∧ TextsAt w1.heap (vs 154) [l0, l1, l1] := hn 154 (by decide)
      clear hn ho hu
      obtain ⟨P1, e1, h1⟩ := g291
      rw [e1] at e291 h1
      obtain ⟨P2, e2, h2⟩ := g301
      rw [e2] at e301 h2
      go_simp
      exact hK _ _ (keeps_refl _) hI ⟨.slice (some ⟨P1, 0, none⟩) 3 3, .slice (some ⟨P2, 0, none⟩) 3 3, rfl, h1, h2, ⟨_, _, _, rfl, Nat.le_refl _⟩, ⟨_, _, _, rfl, Nat.le_refl _⟩⟩
    · intro _ a w1 vs hI ho hn hu K hK
      obtain ⟨e151, g151⟩ : a.tmps[151]? = some (vs 4) ∧ RecIs w1 (vs 4) ⟨3, 2, [0, 1], [l0, l1], 1⟩ := hn 4 (by decide)
      obtain ⟨e156, g156⟩ : a.tmps[156]? = some (vs 9) ∧ RecIs w1 (vs 9) ⟨2, 3, [0], [l0, l1], 1⟩ := hn 9 (by decide)
      obtain ⟨e161, g161⟩ : a.tmps[161]? = some (vs 14) ∧ RecIs w1 (vs 14) ⟨2, 3, [0, 3], [l0, l1], 1⟩ := hn 14 (by decide)
      obtain ⟨e166, g166⟩ : a.tmps[166]? = some (vs 19) ∧ RecIs w1 (vs 19) ⟨2, 3, [(-1), 0], [l0, l1], 1⟩ := hn 19 (by decide)
      obtain ⟨e168, g168⟩ : a.tmps[168]? = some (vs 21) ∧ RecIs w1 (vs 21) ⟨2, 3, [], [], 54⟩ := hn 21 (by decide)
      obtain ⟨e173, g173⟩ : a.tmps[173]? = some (vs 26) ∧ RecIs w1 (vs 26) ⟨2, 3, [2], [l2], 54⟩ := hn 26 (by decide)
      obtain ⟨e184, g184⟩ : a.tmps[184]? = some (vs 37) ∧ RecIs w1 (vs 37) ⟨2, 3, [0, 1], [l0, (l1 ++ (⟨#[0]⟩ : ByteArray))], 4⟩ := hn 37 (by decide)
      obtain ⟨e188, g188⟩ : a.tmps[188]? = some (vs 41) ∧ RecIs w1 (vs 41) ⟨2, 3, [0, 1], [⟨#[]⟩, ⟨#[]⟩], 4⟩ := hn 41 (by decide)
      obtain ⟨e192, g192⟩ : a.tmps[192]? = some (vs 45) ∧ RecIs w1 (vs 45) ⟨2, 3, [0, 1], [⟨#[0, 0]⟩, ⟨#[0, 0]⟩], 4⟩ := hn 45 (by decide)
      obtain ⟨e199, g199⟩ : a.tmps[199]? = some (vs 52) ∧ RecIs w1 (vs 52) ⟨2, 3, [0, 1], [l0, ⟨#[0, 3, 97, 98, 99, 100]⟩], 4⟩ := hn 52 (by decide)
      obtain ⟨e206, g206⟩ : a.tmps[206]? = some (vs 59) ∧ RecIs w1 (vs 59) ⟨2, 3, [0, 1], [l0, ⟨#[0, 2, 97, 98, 99, 0]⟩], 4⟩ := hn 59 (by decide)
      obtain ⟨e213, g213⟩ : a.tmps[213]? = some (vs 66) ∧ RecIs w1 (vs 66) ⟨2, 3, [0, 1], [l0, ⟨#[0, 5, 97, 98, 99, 0]⟩], 4⟩ := hn 66 (by decide)
      obtain ⟨e220, g220⟩ : a.tmps[220]? = some (vs 73) ∧ RecIs w1 (vs 73) ⟨2, 3, [0, 1], [⟨#[0, 0, 0, 0, 0, 1]⟩, l1], 4⟩ := hn 73 (by decide)
      obtain ⟨e227, g227⟩ : a.tmps[227]? = some (vs 80) ∧ RecIs w1 (vs 80) ⟨2, 3, [0, 1], [⟨#[128, 0, 0, 0, 0, 0]⟩, l1], 4⟩ := hn 80 (by decide)
      obtain ⟨e239, g239⟩ : a.tmps[239]? = some (vs 92) ∧ RecIs w1 (vs 92) ⟨2, 3, [0, 1], [(l0 ++ (⟨#[0]⟩ : ByteArray)), (l1 ++ (⟨#[0]⟩ : ByteArray))], 4⟩ := hn 92 (by decide)
      obtain ⟨e243, g243⟩ : a.tmps[243]? = some (vs 96) ∧ RecIs w1 (vs 96) ⟨2, 3, [0, 1], [⟨#[0, 0, 0, 0, 0, 0, 0]⟩, ⟨#[3, 97, 98, 99, 0, 0, 0]⟩], 4⟩ := hn 96 (by decide)
      obtain ⟨e253, g253⟩ : a.tmps[253]? = some (vs 106) ∧ RecIs w1 (vs 106) ⟨2, 3, [1, 0], [l1, l0], 0⟩ := hn 106 (by decide)
      obtain ⟨e263, g263⟩ : a.tmps[263]? = some (vs 116) ∧ RecIs w1 (vs 116) ⟨2, 3, [2, 0], [l2, l0], 0⟩ := hn 116 (by decide)
      obtain ⟨e276, g276⟩ : a.tmps[276]? = some (vs 129) ∧ RecIs w1 (vs 129) ⟨2, 3, [2, 1, 0], [l2, l1, l0], 0⟩ := hn 129 (by decide)
      obtain ⟨e289, g289⟩ : a.tmps[289]? = some (vs 142) ∧ RecIs w1 (vs 142) ⟨2, 3, [2, 1, 0], [l2, l1, l1], 4⟩ := hn 142 (by decide)
      obtain ⟨e302, g302⟩ : a.tmps[302]? = some (vs 155) ∧ RecIs w1 (vs 155) ⟨2, 3, [0, 1, 2], [l0, l1, l1], 4⟩ := hn 155 (by decide)
      clear hn ho hu
      obtain ⟨a0, b0, q0, p0⟩ := g151
      dsimp only at q0
      rw [q0] at e151
      obtain ⟨a1, b1, q1, p1⟩ := g156
      dsimp only at q1
      rw [q1] at e156
      obtain ⟨a2, b2, q2, p2⟩ := g161
      dsimp only at q2
      rw [q2] at e161
      obtain ⟨a3, b3, q3, p3⟩ := g166
      dsimp only at q3
      rw [q3] at e166
      obtain ⟨a4, b4, q4, p4⟩ := g168
      dsimp only at q4
      rw [q4] at e168
      obtain ⟨a5, b5, q5, p5⟩ := g173
      dsimp only at q5
      rw [q5] at e173
      obtain ⟨a6, b6, q6, p6⟩ := g184
      dsimp only at q6
      rw [q6] at e184
      obtain ⟨a7, b7, q7, p7⟩ := g188
      dsimp only at q7
      rw [q7] at e188
      obtain ⟨a8, b8, q8, p8⟩ := g192
      dsimp only at q8
      rw [q8] at e192
      obtain ⟨a9, b9, q9, p9⟩ := g199
      dsimp only at q9
      rw [q9] at e199
      obtain ⟨a10, b10, q10, p10⟩ := g206
      dsimp only at q10
      rw [q10] at e206
      obtain ⟨a11, b11, q11, p11⟩ := g213
      dsimp only at q11
      rw [q11] at e213
      obtain ⟨a12, b12, q12, p12⟩ := g220
      dsimp only at q12
      rw [q12] at e220
      obtain ⟨a13, b13, q13, p13⟩ := g227
      dsimp only at q13
      rw [q13] at e227
      obtain ⟨a14, b14, q14, p14⟩ := g239
      dsimp only at q14
      rw [q14] at e239
      obtain ⟨a15, b15, q15, p15⟩ := g243
      dsimp only at q15
      rw [q15] at e243
      obtain ⟨a16, b16, q16, p16⟩ := g253
      dsimp only at q16
      rw [q16] at e253
      obtain ⟨a17, b17, q17, p17⟩ := g263
      dsimp only at q17
      rw [q17] at e263
      obtain ⟨a18, b18, q18, p18⟩ := g276
      dsimp only at q18
      rw [q18] at e276
      obtain ⟨a19, b19, q19, p19⟩ := g289
      dsimp only at q19
      rw [q19] at e289
      obtain ⟨a20, b20, q20, p20⟩ := g302
      dsimp only at q20
      rw [q20] at e302
      have hbs := bs_tab a0 b0 a1 b1 a2 b2 a3 b3 a4 b4 a5 b5 a6 b6 a7 b7 a8 b8 a9 b9 a10 b10 a11 b11 a12 b12 a13 b13 a14 b14 a15 b15 a16 b16 a17 b17 a18 b18 a19 b19 a20 b20
      go_simp
      exact hK _ _ (kal _ _) (Keeps.trans hI (kal _ _)) ⟨_, rfl, tab_new w1 l0 l1 l2 a0 b0 a1 b1 a2 b2 a3 b3 a4 b4 a5 b5 a6 b6 a7 b7 a8 b8 a9 b9 a10 b10 a11 b11 a12 b12 a13 b13 a14 b14 a15 b15 a16 b16 a17 b17 a18 b18 a19 b19 a20 b20 ⟨p0.keeps (kal _ _), p1.keeps (kal _ _), p2.keeps (kal _ _), p3.keeps (kal _ _), p4.keeps (kal _ _), p5.keeps (kal _ _), p6.keeps (kal _ _), p7.keeps (kal _ _), p8.keeps (kal _ _), p9.keeps (kal _ _), p10.keeps (kal _ _), p11.keeps (kal _ _), p12.keeps (kal _ _), p13.keeps (kal _ _), p14.keeps (kal _ _), p15.keeps (kal _ _), p16.keeps (kal _ _), p17.keeps (kal _ _), p18.keeps (kal _ _), p19.keeps (kal _ _), p20.keeps (kal _ _), trivial⟩⟩
    · intro _ a w1 vs hI ho hn hu K hK
      obtain ⟨e303, g303⟩ : a.tmps[303]? = some (vs 156) ∧ ∃ B, (vs 156) = .slice (some ⟨B, 0, none⟩) 21 21 ∧ TabIs w1 B (tabN l0 l1 l2) := hn 156 (by decide)
      clear hn ho hu
      obtain ⟨B, e9, h9⟩ := g303
      rw [e9] at e303
      go_simp
      exact hK _ _ (keeps_refl _) hI rfl
    · intro _ a w1 vs hI ho hn hu K hK
      clear hn ho hu
      go_simp
      exact hK _ _ (keeps_refl _) hI rfl
  intro vs wE hI hG
  obtain ⟨BT, eB, hB⟩ := hG 156 (by decide)
  have eL157 : vs 157 = .int .i64 21 := hG 157 (by decide)
  have eL158 : vs 158 = .int .i64 0 := hG 158 (by decide)
  have HKE := Lib.hid hI
  have HTB := Lib.hid hB
  clear hG hI hB
  simp (config := { maxSteps := 10000000 }) only [setAll, Nat.zero_add, Nat.reduceAdd, List.setIfInBounds_toArray, List.set_cons_zero, List.set_cons_succ, eB, eL157, eL158]
  clear eB eL157 eL158
  generalize vs 0 = y0 at *
  generalize vs 1 = y1 at *
  generalize vs 2 = y2 at *
  generalize vs 3 = y3 at *
  generalize vs 4 = y4 at *
  generalize vs 5 = y5 at *
  generalize vs 6 = y6 at *
  generalize vs 7 = y7 at *
  generalize vs 8 = y8 at *
  generalize vs 9 = y9 at *
  generalize vs 10 = y10 at *
  generalize vs 11 = y11 at *
  generalize vs 12 = y12 at *
  generalize vs 13 = y13 at *
  generalize vs 14 = y14 at *
  generalize vs 15 = y15 at *
  generalize vs 16 = y16 at *
  generalize vs 17 = y17 at *
  generalize vs 18 = y18 at *
  generalize vs 19 = y19 at *
  generalize vs 20 = y20 at *
  generalize vs 21 = y21 at *
  generalize vs 22 = y22 at *
  generalize vs 23 = y23 at *
  generalize vs 24 = y24 at *
  generalize vs 25 = y25 at *
  generalize vs 26 = y26 at *
  generalize vs 27 = y27 at *
  generalize vs 28 = y28 at *
  generalize vs 29 = y29 at *
  generalize vs 30 = y30 at *
  generalize vs 31 = y31 at *
  generalize vs 32 = y32 at *
  generalize vs 33 = y33 at *
  generalize vs 34 = y34 at *
  generalize vs 35 = y35 at *
  generalize vs 36 = y36 at *
  generalize vs 37 = y37 at *
  generalize vs 38 = y38 at *
  generalize vs 39 = y39 at *
  generalize vs 40 = y40 at *
  generalize vs 41 = y41 at *
  generalize vs 42 = y42 at *
  generalize vs 43 = y43 at *
  generalize vs 44 = y44 at *
  generalize vs 45 = y45 at *
  generalize vs 46 = y46 at *
  generalize vs 47 = y47 at *
  generalize vs 48 = y48 at *
  generalize vs 49 = y49 at *
  generalize vs 50 = y50 at *
  generalize vs 51 = y51 at *
  generalize vs 52 = y52 at *
  generalize vs 53 = y53 at *
  generalize vs 54 = y54 at *
  generalize vs 55 = y55 at *
  generalize vs 56 = y56 at *
  generalize vs 57 = y57 at *
  generalize vs 58 = y58 at *
  generalize vs 59 = y59 at *
  generalize vs 60 = y60 at *
  generalize vs 61 = y61 at *
  generalize vs 62 = y62 at *
  generalize vs 63 = y63 at *
  generalize vs 64 = y64 at *
  generalize vs 65 = y65 at *
  generalize vs 66 = y66 at *
  generalize vs 67 = y67 at *
  generalize vs 68 = y68 at *
  generalize vs 69 = y69 at *
  generalize vs 70 = y70 at *
  generalize vs 71 = y71 at *
  generalize vs 72 = y72 at *
  generalize vs 73 = y73 at *
  generalize vs 74 = y74 at *
  generalize vs 75 = y75 at *
  generalize vs 76 = y76 at *
  generalize vs 77 = y77 at *
  generalize vs 78 = y78 at *
  generalize vs 79 = y79 at *
  generalize vs 80 = y80 at *
  generalize vs 81 = y81 at *
  generalize vs 82 = y82 at *
  generalize vs 83 = y83 at *
  generalize vs 84 = y84 at *
  generalize vs 85 = y85 at *
  generalize vs 86 = y86 at *
  generalize vs 87 = y87 at *
  generalize vs 88 = y88 at *
  generalize vs 89 = y89 at *
  generalize vs 90 = y90 at *
  generalize vs 91 = y91 at *
  generalize vs 92 = y92 at *
  generalize vs 93 = y93 at *
  generalize vs 94 = y94 at *
  generalize vs 95 = y95 at *
  generalize vs 96 = y96 at *
  generalize vs 97 = y97 at *
  generalize vs 98 = y98 at *
  generalize vs 99 = y99 at *
  generalize vs 100 = y100 at *
  generalize vs 101 = y101 at *
  generalize vs 102 = y102 at *
  generalize vs 103 = y103 at *
  generalize vs 104 = y104 at *
  generalize vs 105 = y105 at *
  generalize vs 106 = y106 at *
  generalize vs 107 = y107 at *
  generalize vs 108 = y108 at *
  generalize vs 109 = y109 at *
  generalize vs 110 = y110 at *
  generalize vs 111 = y111 at *
  generalize vs 112 = y112 at *
  generalize vs 113 = y113 at *
  generalize vs 114 = y114 at *
  generalize vs 115 = y115 at *
  generalize vs 116 = y116 at *
  generalize vs 117 = y117 at *
  generalize vs 118 = y118 at *
  generalize vs 119 = y119 at *
  generalize vs 120 = y120 at *
  generalize vs 121 = y121 at *
  generalize vs 122 = y122 at *
  generalize vs 123 = y123 at *
  generalize vs 124 = y124 at *
  generalize vs 125 = y125 at *
  generalize vs 126 = y126 at *
  generalize vs 127 = y127 at *
  generalize vs 128 = y128 at *
  generalize vs 129 = y129 at *
  generalize vs 130 = y130 at *
  generalize vs 131 = y131 at *
  generalize vs 132 = y132 at *
  generalize vs 133 = y133 at *
  generalize vs 134 = y134 at *
  generalize vs 135 = y135 at *
  generalize vs 136 = y136 at *
  generalize vs 137 = y137 at *
  generalize vs 138 = y138 at *
  generalize vs 139 = y139 at *
  generalize vs 140 = y140 at *
  generalize vs 141 = y141 at *
  generalize vs 142 = y142 at *
  generalize vs 143 = y143 at *
  generalize vs 144 = y144 at *
  generalize vs 145 = y145 at *
  generalize vs 146 = y146 at *
  generalize vs 147 = y147 at *
  generalize vs 148 = y148 at *
  generalize vs 149 = y149 at *
  generalize vs 150 = y150 at *
  generalize vs 151 = y151 at *
  generalize vs 152 = y152 at *
  generalize vs 153 = y153 at *
  generalize vs 154 = y154 at *
  generalize vs 155 = y155 at *
  have HTL : Hid ((tabN l0 l1 l2).length = 21) := rfl
  have HOK : Hid (∀ r ∈ tabN l0 l1 l2, okR l2 r = true) := List.all_eq_true.1 HTO.out
  generalize tabN l0 l1 l2 = T at *
  clear HTO
  go_wp2_with fail
  go_loopw [305] (fun i wr => ∃ j : Nat, j ≤ 21 ∧ i = .int .i64 j ∧ Hid (Keeps wE wr)) (fun i _ => 21 - (intOf i).toNat)
  case atStart => exact ⟨0, by omega, rfl, keeps_refl _⟩
  case round =>
    obtain ⟨j, hj, rfl, hK⟩ := hrel
    by_cases hlt : j < 21
    · have i1 : (j : Int) < 21 := by omega
      have i0 : (0 : Int) ≤ (j : Int) := by omega
      obtain ⟨a, b, hcell, hrec⟩ := (HTB.out.keeps hK.out).cell (j := j) (by rw [HTL.out]; exact hlt)
      have hr := HOK.out _ (List.getElem_mem (show j < T.length by rw [HTL.out]; exact hlt))
      generalize T[j]'(by rw [HTL.out]; exact hlt) = r at *
      obtain ⟨k, n, hv, ps, er⟩ := r
      obtain ⟨x1, x2, x3, x4, x5, x6⟩ := okR_out hr
      obtain ⟨ha, hb, ca, cb⟩ := hrec
      dsimp only at ha hb
      have d0 : wr.cell? ⟨BT, j * 5, none⟩ = some (.int .i64 k) := hcell 0 (by decide)
      have d1 : wr.cell? ⟨BT, j * 5 + 1, none⟩ = some (.int .i64 n) := hcell 1 (by decide)
      have d2 : wr.cell? ⟨BT, j * 5 + 2, none⟩ = some a := hcell 2 (by decide)
      have d3 : wr.cell? ⟨BT, j * 5 + 3, none⟩ = some b := hcell 3 (by decide)
      have d4 : wr.cell? ⟨BT, j * 5 + 4, none⟩ = some (.int .i64 er) := hcell 4 (by decide)
      obtain ⟨pa, qa, rfl⟩ := seq_shape ha
      obtain ⟨pb, qb, rfl⟩ := seq_shape hb
      have HD : Hid (∀ wx, Keeps wr wx → Calls Tryd.prog 9 #[.agg #[.int .i64 k, .int .i64 n], .slice pa hv.length qa, .slice pb ps.length qb] wx fun e w' => e = .returned (.tuple #[.string (strB ((gotD k n hv ps).getD [])), .int .i64 er]) ∧ Keeps wx w') := fun wx hx => by
        have := decode_any k n _ _ hv ps wx x5 x6 (SeqAt.keeps ha hx) (SeqAt.keeps hb hx) ca cb
        rw [x1] at this; exact this
      have HRB : Hid (∀ wx, Keeps wr wx → Calls Tryd.prog 11 #[.agg #[.int .i64 k, .int .i64 n], .slice pa hv.length qa, .slice pb ps.length qb, .int .i64 2] wx fun e w' => e = .returned (.tuple #[.string (rebD k n hv ps 2).1, .int .i64 er]) ∧ Keeps wx w') := fun wx hx => by
        have := rebuild_any k n _ _ hv ps 2 wx x5 x6 (SeqAt.keeps ha hx) (SeqAt.keeps hb hx) ca cb
        rw [x3] at this; exact this
      clear hcell hr x1 x3 x5 x6 ha hb ca cb
      generalize strB ((gotD k n hv ps).getD []) = S at *
      generalize (rebD k n hv ps 2).1 = R1 at *
      have X2 := Lib.hid x2
      have X4 := Lib.hid x4
      clear x2 x4
      generalize hv.length = lv at *
      generalize ps.length = lp at *
      have HX : Hid (RowH (wr.alloc (.cells (recA k n (.slice pa lv qa) (.slice pb lp qb) er) 40)) wr.heap.size (recA k n (.slice pa lv qa) (.slice pb lp qb) er) 40) := heap_alloc_new _ _
      have HKX : Hid (Keeps wr (wr.alloc (.cells (recA k n (.slice pa lv qa) (.slice pb lp qb) er) 40))) := kal _ _
      have HCX : Hid (∀ wx, Keeps (wr.alloc (.cells (recA k n (.slice pa lv qa) (.slice pb lp qb) er) 40)) wx → wx.cell? ⟨wr.heap.size, 0, none⟩ = some (.int .i64 k) ∧ wx.cell? ⟨wr.heap.size, 1, none⟩ = some (.int .i64 n) ∧ wx.cell? ⟨wr.heap.size, 2, none⟩ = some (.slice pa lv qa) ∧ wx.cell? ⟨wr.heap.size, 3, none⟩ = some (.slice pb lp qb) ∧ wx.cell? ⟨wr.heap.size, 4, none⟩ = some (.int .i64 er)) := fun wx hx => by
        have h := HX.out.keeps hx
        exact ⟨cell_of_row _ _ 0 _ _ _ h, cell_of_row _ _ 1 _ _ _ h, cell_of_row _ _ 2 _ _ _ h, cell_of_row _ _ 3 _ _ _ h, cell_of_row _ _ 4 _ _ _ h⟩
      obtain ⟨e0, e1, e2, e3, e4⟩ := HCX.out _ (keeps_refl _)
      go_wp2_with (refine wpList_store_row rfl 40 (.tmp 21) (.tmp 308) rfl wr.heap.size (recA k n (.slice pa lv qa) (.slice pb lp qb) er) rfl rfl 40 _ (heap_alloc_last wr _) (by kernel_rfl) rfl (recA_one k n pa pb lv lp qa qb er) ?_; rw [World.setRow_alloc_new])
      refine Calls.mono (HD.out _ HKX.out) ?_
      rintro e w4 ⟨rfl, hk⟩
      have HK4 := Lib.hid hk
      obtain ⟨f0, f1, f2, f3, f4⟩ := HCX.out _ hk
      clear hk e0 e1 e2 e3 e4 d0 d1 d2 d3 d4 HD
      by_cases he : er = 0
      · have hS := of_decide_eq_true (X2.out.trans (decide_eq_true he))
        have hR := of_decide_eq_true (X4.out.trans (decide_eq_true he))
        subst he hS hR
        clear X2 X4
        go_wp2_with fail
        refine Calls.mono (HRB.out _ (HKX.out.trans HK4.out)) ?_
        rintro e w5 ⟨rfl, hk⟩
        have HK5 := Lib.hid (HK4.out.trans hk)
        obtain ⟨f0, f1, f2, f3, f4⟩ := HCX.out _ HK5.out
        have HK6 := Lib.hid ((hK.out.trans HKX.out).trans HK5.out)
        have g2 := keeps_cell (HKE.out.trans HK6.out) L2.out
        have q1 : (R1.toList == R1.toList) = true := by rw [txt_eq]; exact decide_eq_true rfl
        clear hk
        go_wp2_with fail
        exact ⟨⟨j + 1, by omega, by go_num, HK6⟩, by simp [intOf]; omega⟩
      · have hS := of_decide_eq_false (X2.out.trans (decide_eq_false he))
        have hR := of_decide_eq_false (X4.out.trans (decide_eq_false he))
        have q1 : (S.toList == (⟨#[97, 98, 99]⟩ : ByteArray).toList) = false := by rw [txt_eq]; exact decide_eq_false hS
        have q2 : (S.toList == [97, 98, 99]) = false := by rw [toList_eq ⟨#[97, 98, 99]⟩] at q1; exact q1
        have q3 : (R1.toList == l2.toList) = false := by rw [txt_eq]; exact decide_eq_false hR
        have q4 : (er == 0) = false := beq_eq_false_iff_ne.2 he
        clear X2 X4 hS hR q1
        go_wp2_with fail
        refine Calls.mono (HRB.out _ (HKX.out.trans HK4.out)) ?_
        rintro e w5 ⟨rfl, hk⟩
        have HK5 := Lib.hid (HK4.out.trans hk)
        obtain ⟨f0, f1, f2, f3, f4⟩ := HCX.out _ HK5.out
        have HK6 := Lib.hid ((hK.out.trans HKX.out).trans HK5.out)
        have g2 := keeps_cell (HKE.out.trans HK6.out) L2.out
        clear hk
        go_wp2_with fail
        exact ⟨⟨j + 1, by omega, by go_num, HK6⟩, by simp [intOf]; omega⟩
    · obtain rfl : j = 21 := by omega
      have HKR := Lib.hid (HKE.out.trans hK.out)
      have A0 := Lib.hid (keeps_cell HKR.out A0.out)
      have A1 := Lib.hid (keeps_cell HKR.out A1.out)
      have HIN : Hid (∀ x ∈ ([0, 1] : List Int), inI x) := fun x hx => by
        simp at hx
        rcases hx with rfl | rfl <;> exact ⟨by decide, by decide⟩
      have HPZ : Hid (∀ p ∈ [l0, l1], p.size ≤ 1000000) := fun p hp => by
        have := HLS.out
        simp at hp
        rcases hp with rfl | rfl <;> omega
      have HRB2 : Hid (∀ (wx : World) (vx : Value), Keeps wr wx → SeqAt IsInt wx.heap vx [0, 1] → CapOk vx → Calls Tryd.prog 11 #[.agg #[.int .i64 2, .int .i64 3], vx, .slice (some ⟨bl, ol, none⟩) 2 ql, .int .i64 3] wx fun e w' => e = .returned (.tuple #[.string ⟨#[]⟩, .int .i64 1]) ∧ Keeps wx w') := fun wx vx hx hv hc => by
        have := rebuild_any 2 3 vx _ [0, 1] [l0, l1] 3 wx HPZ.out HIN.out hv (SeqAt.keeps HF2.out (HKR.out.trans hx)) hc ⟨_, _, _, rfl, Int.ofNat_le.1 HQ2.out⟩
        rw [HR3.out] at this; exact this
      have HRB0 : Hid (∀ (wx : World) (vx : Value), Keeps wr wx → SeqAt IsInt wx.heap vx [0] → CapOk vx → Calls Tryd.prog 11 #[.agg #[.int .i64 2, .int .i64 3], vx, .slice (some ⟨bl, ol, none⟩) 1 ql, .int .i64 (-1)] wx fun e w' => e = .returned (.tuple #[.string ⟨#[]⟩, .int .i64 1]) ∧ Keeps wx w') := fun wx vx hx hv hc => by
        have := rebuild_any 2 3 vx _ [0] [l0] (-1) wx (fun p hp => HPZ.out p (by simp at hp; simp [hp])) (fun x hx => HIN.out x (by simp at hx; simp [hx])) hv (SeqAt.keeps HF1.out (HKR.out.trans hx)) hc ⟨_, _, _, rfl, Int.ofNat_le.1 HQ1.out⟩
        rw [HRN.out] at this; exact this
      clear HTB HOK HTL hlt hj
      go_upto_region 28 with (fail)
      have HKZ := Lib.hid ((HK2.out.trans HKA.out).trans HKR.out)
      clear HKR hK HKE
      generalize wr = wb at *
      refine wp_region_stage [356, 357, 358, 359, 360, 355, 361, 362, 26, 27] [[], [], [], [2], [0, 1, 3], [4], [5], [5], [6], [7]] [] [0, 0, 0, 0, 0, 0, 0, 0, 0, 0] [] (cn28 bc bl ol ql) (fun w w' => Keeps w w') (fun _ _ w' => Keeps wb w') (by kernel_rfl) (by kernel_rfl) (by kernel_rfl) (by kernel_rfl) (by kernel_rfl) (by kernel_rfl) (by kernel_rfl) ?_ ?_ ?_ ?_ ?_ ?_ ?_
      · exact fun i v w w' c h => cn28_keeps i v w w' c h
      · exact fun w => keeps_refl w
      · exact fun i s vs w _ h => h
      · refine ⟨?_, ?_, ?_, ?_, ?_, ?_, ?_, ?_, ?_, ?_, trivial⟩
        · exact fun g b h => by (cases h)
        · exact fun g b h => by (cases h)
        · exact fun g b h => by (cases h)
        · exact fun g b h => by (cases h)
        · exact fun g b h => by (cases h)
        · exact fun g b h => by (cases h)
        · exact fun g b h => by (cases h)
        · exact fun g b h => by (cases h)
        · exact fun g b h => by (cases h)
        · exact fun g b h => by (cases h)
      · exact fun _ _ => keeps_refl wb
      · refine ⟨?_, ?_, ?_, ?_, ?_, ?_, ?_, ?_, ?_, ?_, trivial⟩
        · intro _ a w1 vs hI ho hn hu K hK
          have e1 : a.tmps[1]? = some (.pointer (some ⟨bc, 0, none⟩)) := ho 1 rfl
          clear hn ho hu
          have c0 := keeps_cell hI A0.out
          have c1 := keeps_cell hI A1.out
          go_simp
          exact hK _ _ (keeps_refl _) hI rfl
        · intro _ a w1 vs hI ho hn hu K hK
          clear hn ho hu
          go_simp
          exact hK _ _ (kal _ _) (Keeps.trans hI (kal _ _)) ⟨_, rfl, intsAt_lit w1 [0, 1] 2 2 rfl (by omega)⟩
        · intro _ a w1 vs hI ho hn hu K hK
          have e19 : a.tmps[19]? = some (.slice (some ⟨bl, ol, none⟩) 3 ql) := ho 19 rfl
          clear hn ho hu
          go_simp
          exact hK _ _ (keeps_refl _) hI rfl
        · intro _ a w1 vs hI ho hn hu K hK
          obtain ⟨e358, g358⟩ : a.tmps[358]? = some (vs 2) ∧ vs 2 = .slice (some ⟨bl, ol, none⟩) 3 ql := hn 2 (by decide)
          rw [g358] at e358
          clear g358
          clear hn ho hu
          have hq : (2 : Int) ≤ (ql : Int) := HQ2.out
          go_simp
          exact hK _ _ (keeps_refl _) hI rfl
        · intro _ a w1 vs hI ho hn hu K hK
          obtain ⟨e356, g356⟩ : a.tmps[356]? = some (vs 0) ∧ vs 0 = .agg #[.int .i64 2, .int .i64 3] := hn 0 (by decide)
          rw [g356] at e356
          clear g356
          obtain ⟨e357, g357⟩ : a.tmps[357]? = some (vs 1) ∧ ∃ B, (vs 1) = .slice (some ⟨B, 0, none⟩) 2 2 ∧ SeqAt IsInt w1.heap (vs 1) [0, 1] := hn 1 (by decide)
          obtain ⟨e359, g359⟩ : a.tmps[359]? = some (vs 3) ∧ vs 3 = .slice (some ⟨bl, ol, none⟩) 2 ql := hn 3 (by decide)
          rw [g359] at e359
          clear g359
          clear hn ho hu
          obtain ⟨B, e9, h9⟩ := g357
          rw [e9] at e357 h9
          go_simp
          refine Calls.mono (HRB2.out _ _ hI h9 ⟨_, _, _, rfl, Nat.le_refl _⟩) ?_
          rintro e w' ⟨rfl, hk2⟩
          go_simp
          exact hK _ _ hk2 (Keeps.trans hI hk2) rfl
        · intro _ a w1 vs hI ho hn hu K hK
          obtain ⟨e360, g360⟩ : a.tmps[360]? = some (vs 4) ∧ vs 4 = .tuple #[.string ⟨#[]⟩, .int .i64 1] := hn 4 (by decide)
          rw [g360] at e360
          clear g360
          clear hn ho hu
          go_simp
          exact hK _ _ (keeps_refl _) hI rfl
        · intro _ a w1 vs hI ho hn hu K hK
          obtain ⟨e355, g355⟩ : a.tmps[355]? = some (vs 5) ∧ vs 5 = .tuple #[.string ⟨#[]⟩, .int .i64 1] := hn 5 (by decide)
          rw [g355] at e355
          clear g355
          clear hn ho hu
          go_simp
          exact hK _ _ (keeps_refl _) hI rfl
        · intro _ a w1 vs hI ho hn hu K hK
          obtain ⟨e355, g355⟩ : a.tmps[355]? = some (vs 5) ∧ vs 5 = .tuple #[.string ⟨#[]⟩, .int .i64 1] := hn 5 (by decide)
          rw [g355] at e355
          clear g355
          clear hn ho hu
          go_simp
          exact hK _ _ (keeps_refl _) hI rfl
        · intro _ a w1 vs hI ho hn hu K hK
          obtain ⟨e361, g361⟩ : a.tmps[361]? = some (vs 6) ∧ vs 6 = .string ⟨#[]⟩ := hn 6 (by decide)
          rw [g361] at e361
          clear g361
          clear hn ho hu
          go_simp
          exact hK _ _ (keeps_refl _) hI rfl
        · intro _ a w1 vs hI ho hn hu K hK
          obtain ⟨e362, g362⟩ : a.tmps[362]? = some (vs 7) ∧ vs 7 = .int .i64 1 := hn 7 (by decide)
          rw [g362] at e362
          clear g362
          clear hn ho hu
          go_simp
          exact hK _ _ (keeps_refl _) hI rfl
      intro vs wE hI hG
      have eL : vs 9 = .int .i64 1 := hG 9 (by decide)
      have HKL := Lib.hid hI
      clear hG hI
      simp only [setAll, Nat.zero_add, Nat.reduceAdd, List.setIfInBounds_toArray, List.set_cons_zero, List.set_cons_succ, eL]
      clear eL
      generalize vs 0 = y0 at *
      generalize vs 1 = y1 at *
      generalize vs 2 = y2 at *
      generalize vs 3 = y3 at *
      generalize vs 4 = y4 at *
      generalize vs 5 = y5 at *
      generalize vs 6 = y6 at *
      generalize vs 7 = y7 at *
      generalize vs 8 = y8 at *
      have HRB1 : Hid (∀ (wx : World) (vx : Value), Keeps wE wx → SeqAt IsInt wx.heap vx [0] → CapOk vx → Calls Tryd.prog 11 #[.agg #[.int .i64 2, .int .i64 3], vx, .slice (some ⟨bl, ol, none⟩) 1 ql, .int .i64 (-1)] wx fun e w' => e = .returned (.tuple #[.string ⟨#[]⟩, .int .i64 1]) ∧ Keeps wx w') := fun wx vx hx => HRB0.out wx vx (HKL.out.trans hx)
      have HKY := Lib.hid (HKZ.out.trans HKL.out)
      have A0 := Lib.hid (keeps_cell HKL.out A0.out)
      have A1 := Lib.hid (keeps_cell HKL.out A1.out)
      clear HRB2 HRB0 HKL HKZ
      generalize wE = wc at *
      go_upto_region 29 with (fail)
      refine wp_region_stage [364, 365, 366, 367, 368, 363, 369, 370, 28, 29] [[], [], [], [2], [0, 1, 3], [4], [5], [5], [6], [7]] [] [0, 0, 0, 0, 0, 0, 0, 0, 0, 0] [] (cn29 bc bl ol ql) (fun w w' => Keeps w w') (fun _ _ w' => Keeps wc w') (by kernel_rfl) (by kernel_rfl) (by kernel_rfl) (by kernel_rfl) (by kernel_rfl) (by kernel_rfl) (by kernel_rfl) ?_ ?_ ?_ ?_ ?_ ?_ ?_
      · exact fun i v w w' c h => cn29_keeps i v w w' c h
      · exact fun w => keeps_refl w
      · exact fun i s vs w _ h => h
      · refine ⟨?_, ?_, ?_, ?_, ?_, ?_, ?_, ?_, ?_, ?_, trivial⟩
        · exact fun g b h => by (cases h)
        · exact fun g b h => by (cases h)
        · exact fun g b h => by (cases h)
        · exact fun g b h => by (cases h)
        · exact fun g b h => by (cases h)
        · exact fun g b h => by (cases h)
        · exact fun g b h => by (cases h)
        · exact fun g b h => by (cases h)
        · exact fun g b h => by (cases h)
        · exact fun g b h => by (cases h)
      · exact fun _ _ => keeps_refl wc
      · refine ⟨?_, ?_, ?_, ?_, ?_, ?_, ?_, ?_, ?_, ?_, trivial⟩
        · intro _ a w1 vs hI ho hn hu K hK
          have e1 : a.tmps[1]? = some (.pointer (some ⟨bc, 0, none⟩)) := ho 1 rfl
          clear hn ho hu
          have c0 := keeps_cell hI A0.out
          have c1 := keeps_cell hI A1.out
          go_simp
          exact hK _ _ (keeps_refl _) hI rfl
        · intro _ a w1 vs hI ho hn hu K hK
          clear hn ho hu
          go_simp
          exact hK _ _ (kal _ _) (Keeps.trans hI (kal _ _)) ⟨_, rfl, intsAt_lit w1 [0] 1 1 rfl (by omega)⟩
        · intro _ a w1 vs hI ho hn hu K hK
          have e19 : a.tmps[19]? = some (.slice (some ⟨bl, ol, none⟩) 3 ql) := ho 19 rfl
          clear hn ho hu
          go_simp
          exact hK _ _ (keeps_refl _) hI rfl
        · intro _ a w1 vs hI ho hn hu K hK
          obtain ⟨e366, g366⟩ : a.tmps[366]? = some (vs 2) ∧ vs 2 = .slice (some ⟨bl, ol, none⟩) 3 ql := hn 2 (by decide)
          rw [g366] at e366
          clear g366
          clear hn ho hu
          have hq : (1 : Int) ≤ (ql : Int) := HQ1.out
          go_simp
          exact hK _ _ (keeps_refl _) hI rfl
        · intro _ a w1 vs hI ho hn hu K hK
          obtain ⟨e364, g364⟩ : a.tmps[364]? = some (vs 0) ∧ vs 0 = .agg #[.int .i64 2, .int .i64 3] := hn 0 (by decide)
          rw [g364] at e364
          clear g364
          obtain ⟨e365, g365⟩ : a.tmps[365]? = some (vs 1) ∧ ∃ B, (vs 1) = .slice (some ⟨B, 0, none⟩) 1 1 ∧ SeqAt IsInt w1.heap (vs 1) [0] := hn 1 (by decide)
          obtain ⟨e367, g367⟩ : a.tmps[367]? = some (vs 3) ∧ vs 3 = .slice (some ⟨bl, ol, none⟩) 1 ql := hn 3 (by decide)
          rw [g367] at e367
          clear g367
          clear hn ho hu
          obtain ⟨B, e9, h9⟩ := g365
          rw [e9] at e365 h9
          go_simp
          refine Calls.mono (HRB1.out _ _ hI h9 ⟨_, _, _, rfl, Nat.le_refl _⟩) ?_
          rintro e w' ⟨rfl, hk2⟩
          go_simp
          exact hK _ _ hk2 (Keeps.trans hI hk2) rfl
        · intro _ a w1 vs hI ho hn hu K hK
          obtain ⟨e368, g368⟩ : a.tmps[368]? = some (vs 4) ∧ vs 4 = .tuple #[.string ⟨#[]⟩, .int .i64 1] := hn 4 (by decide)
          rw [g368] at e368
          clear g368
          clear hn ho hu
          go_simp
          exact hK _ _ (keeps_refl _) hI rfl
        · intro _ a w1 vs hI ho hn hu K hK
          obtain ⟨e363, g363⟩ : a.tmps[363]? = some (vs 5) ∧ vs 5 = .tuple #[.string ⟨#[]⟩, .int .i64 1] := hn 5 (by decide)
          rw [g363] at e363
          clear g363
          clear hn ho hu
          go_simp
          exact hK _ _ (keeps_refl _) hI rfl
        · intro _ a w1 vs hI ho hn hu K hK
          obtain ⟨e363, g363⟩ : a.tmps[363]? = some (vs 5) ∧ vs 5 = .tuple #[.string ⟨#[]⟩, .int .i64 1] := hn 5 (by decide)
          rw [g363] at e363
          clear g363
          clear hn ho hu
          go_simp
          exact hK _ _ (keeps_refl _) hI rfl
        · intro _ a w1 vs hI ho hn hu K hK
          obtain ⟨e369, g369⟩ : a.tmps[369]? = some (vs 6) ∧ vs 6 = .string ⟨#[]⟩ := hn 6 (by decide)
          rw [g369] at e369
          clear g369
          clear hn ho hu
          go_simp
          exact hK _ _ (keeps_refl _) hI rfl
        · intro _ a w1 vs hI ho hn hu K hK
          obtain ⟨e370, g370⟩ : a.tmps[370]? = some (vs 7) ∧ vs 7 = .int .i64 1 := hn 7 (by decide)
          rw [g370] at e370
          clear g370
          clear hn ho hu
          go_simp
          exact hK _ _ (keeps_refl _) hI rfl
      intro vs wE hI hG
      have eL : vs 9 = .int .i64 1 := hG 9 (by decide)
      have HKL := Lib.hid hI
      clear hG hI
      simp only [setAll, Nat.zero_add, Nat.reduceAdd, List.setIfInBounds_toArray, List.set_cons_zero, List.set_cons_succ, eL]
      clear eL
      generalize vs 0 = y0 at *
      generalize vs 1 = y1 at *
      generalize vs 2 = y2 at *
      generalize vs 3 = y3 at *
      generalize vs 4 = y4 at *
      generalize vs 5 = y5 at *
      generalize vs 6 = y6 at *
      generalize vs 7 = y7 at *
      generalize vs 8 = y8 at *
      have HKW := Lib.hid (HKY.out.trans HKL.out)
      clear HKY HKL
      go_wp2_with fail
      go_ret
      exact ⟨rfl, HKW.out⟩
end Go.Proofs.YtllfhaocdknejaaDoor
