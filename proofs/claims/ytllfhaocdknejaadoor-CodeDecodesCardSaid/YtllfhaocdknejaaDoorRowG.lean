/- A row of bytes in a block of its own. -/
import Derived.Test.YtllfhaocdknejaaDoorMade5
import Derived.Test.YtllfhaocdknejaaDoorTail
namespace Go.Proofs.YtllfhaocdknejaaDoor
open Go.RowKit
/-- Block r is a row of n bytes: f 0, .. -/
def RowF (h : Array Obj) (r n : Nat) (f : Nat → UInt8) : Prop := typH h r = some 5 ∧ ∀ j, j < n → frozH h r j = false ∧ cellH h r j = some (.int .u8 ((f j).toNat : Int))
theorem RowF.congr {h : Array Obj} {r n : Nat} {f g : Nat → UInt8} (k : RowF h r n f) (e : ∀ j, j < n → f j = g j) : RowF h r n g :=
  ⟨k.1, fun j hj => ⟨(k.2 j hj).1, by rw [← e j hj]; exact (k.2 j hj).2⟩⟩
theorem RowF.chg {T : Nat → Prop} {w w' : World} {r n : Nat} {f : Nat → UInt8} (k : RowF w.heap r n f) (c : Chg T w w') (ht : ¬ T r) : RowF w'.heap r n f :=
  ⟨typH_chg c k.1 ht, fun j hj => ⟨by rw [frozH_chg c (typH_lt k.1) ht]; exact (k.2 j hj).1, cellH_chg c (k.2 j hj).2 ht⟩⟩
theorem RowF.set {w : World} {r n : Nat} {f : Nat → UInt8} (k : RowF w.heap r n f) {j : Nat} (hj : j < n) (x : UInt8) : RowF (w.setCell ⟨r, j, none⟩ (.int .u8 (x.toNat : Int))).heap r n (fun q => if q = j then x else f q) := by
  refine ⟨by rw [typH_set]; exact k.1, fun q hq => ⟨by rw [frozH_set]; exact (k.2 q hq).1, ?_⟩⟩
  rw [cellH_set _ _ _ _ _ _ _ (k.2 j hj).2]
  by_cases e : j = q
  · subst e; rw [if_pos ⟨rfl, rfl⟩]; (try dsimp only); rw [if_pos rfl]
  · rw [if_neg (fun x => e x.2)]; (try dsimp only); rw [if_neg (fun h => e h.symm)]; exact (k.2 q hq).2
theorem Tab.chg {T : Nat → Prop} {w w' : World} {b : Nat} (t : Tab w.heap b) (c : Chg T w w') (ht : ¬ T b) : Tab w'.heap b :=
  ⟨fun i hi => cellH_chg c (t.1 i hi) ht, fun i hi => cellH_chg c (t.2 i hi) ht⟩
theorem gadd_e (b : Nat) (x y s : UInt8) (w : World) (h : x ^^^ y = s) : Calls Tryd.prog 47 #[.pointer (some ⟨b, 0, none⟩), .int .u8 (x.toNat : Int), .int .u8 (y.toNat : Int)] w fun e w' => e = .returned (.int .u8 (s.toNat : Int)) ∧ w = w' := h ▸ gadd_any _ x y w
theorem gmul_e (b : Nat) (x y s : UInt8) (w : World) (h : LA.mul x y = s) (ht : Tab w.heap b) : Calls Tryd.prog 48 #[.pointer (some ⟨b, 0, none⟩), .int .u8 (x.toNat : Int), .int .u8 (y.toNat : Int)] w fun e w' => e = .returned (.int .u8 (s.toNat : Int)) ∧ ∃ n, w' = w.drewN n := h ▸ gmul_tab b x y w ht
theorem RowF.rowIn {S : Nat → Prop} {h : Array Obj} {r n : Nat} {f : Nat → UInt8} (k : RowF h r n f) (hS : S r) (hn : n ≤ 1000000) : RowIn S h (.slice (some ⟨r, 0, none⟩) n n) ((List.range n).map f) := by
  refine ⟨some ⟨r, 0, none⟩, n, by rw [List.length_map, List.length_range], by rw [List.length_map, List.length_range]; omega, fun j hj => ⟨r, 0, .int .u8 ((f j).toNat : Int), rfl, ⟨hS, k.1⟩, ?_, ?_, ?_⟩⟩
  · simp only [List.length_map, List.length_range] at hj
    rw [Nat.zero_add]; exact (k.2 j hj).1
  · simp only [List.length_map, List.length_range] at hj
    rw [Nat.zero_add]; exact (k.2 j hj).2
  · simp [IsByte]
theorem RowF.new (w : World) (n : Nat) : RowF (w.alloc (.cells (reps n (.int .u8 0)) 5)).heap w.heap.size n (fun _ => 0) :=
  ⟨typH_new _ _ _, fun j hj => ⟨(reps_cell w n _ _ j hj).2, (reps_cell w n _ _ j hj).1⟩⟩
end Go.Proofs.YtllfhaocdknejaaDoor
