/- Slices that are written out: what they read as. No program in sight but its types. -/
import Derived.Test.YtllfhaocdknejaaDoorCodeM
namespace Go.Proofs.YtllfhaocdknejaaDoor
open Go.RowKit
/-- A matrix written out: its rows lie in the world already. -/
theorem matAt_lit (w : World) (vs : List Value) (m : List (List UInt8)) (n c : Nat) (hn : m.length = n) (h63 : n ≤ 9223372036854775807) (hl : vs.length = m.length) (h : ∀ i (hi : i < m.length), RowAt w.heap (vs[i]'(by omega)) m[i]) :
    MatAt (w.alloc (.cells ⟨vs⟩ 39)).heap (.slice (some ⟨w.heap.size, 0, none⟩) n c) m :=
  seqAt_lit w _ _ m n c hn h63 fun i hi => ⟨vs[i]'(by omega), by rw [← Array.getElem?_toList]; simp, SeqAt.keeps (w := w) (h i hi) ((Kept.refl _ _).alloc (Nat.le_refl _) _)⟩
theorem RowAt.al {w : World} {v : Value} {r : List UInt8} (h : RowAt w.heap v r) (o : Obj) : RowAt (w.alloc o).heap v r := SeqAt.keeps h ((Kept.refl _ _).alloc (Nat.le_refl _) _)
theorem MatAt.al {w : World} {v : Value} {r : List (List UInt8)} (h : MatAt w.heap v r) (o : Obj) : MatAt (w.alloc o).heap v r := MatAt.keeps h ((Kept.refl _ _).alloc (Nat.le_refl _) _)
theorem Keeps.al {a w : World} (h : Keeps a w) (o : Obj) : Keeps a (w.alloc o) := h.alloc (Nat.le_refl _) o
end Go.Proofs.YtllfhaocdknejaaDoor
