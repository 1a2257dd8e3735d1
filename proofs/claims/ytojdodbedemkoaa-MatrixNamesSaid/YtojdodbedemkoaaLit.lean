/- Slices that are written out: what they read as. No program in sight but its types. -/
import Derived.Test.YtojdodbedemkoaaMatSpec
import Derived.Test.YtojdodbedemkoaaStep
namespace Go.Proofs.Ytojdodbedemkoaa
open Go.RowKit
theorem seqAt_lit {α : Type} {R : Value → α → Prop} (w : World) (cs : Array Value) (e : TypeId) (l : List α) (n c : Nat) (hn : l.length = n) (h63 : n ≤ 9223372036854775807)
    (h : ∀ i (hi : i < l.length), ∃ u, cs[i]? = some u ∧ R u l[i]) : SeqAt R (w.alloc (.cells cs e)).heap (.slice (some ⟨w.heap.size, 0, none⟩) n c) l := by
  subst hn
  refine ⟨_, c, rfl, h63, fun i hi => ?_⟩
  obtain ⟨u, h1, h2⟩ := h i hi
  refine ⟨w.heap.size, 0, u, rfl, ?_, h2⟩
  rw [← cell_of, World.cell?_alloc_new, Nat.zero_add]; exact h1
theorem SeqAt.there {α : Type} {R : Value → α → Prop} {w : World} {h : Array Obj} {l : List α} {n c N : Nat} (s : SeqAt R h (.slice (some ⟨w.heap.size, 0, none⟩) n c) l) (hN : w.heap.size = N) : SeqAt R h (.slice (some ⟨N, 0, none⟩) n c) l := hN ▸ s
theorem rowAt_lit (w : World) (r : List UInt8) (n c : Nat) (hn : r.length = n) (h63 : n ≤ 9223372036854775807) : RowAt (w.alloc (.cells ⟨bytesV r⟩ 5)).heap (.slice (some ⟨w.heap.size, 0, none⟩) n c) r :=
  seqAt_lit w _ _ r n c hn h63 fun i hi => ⟨.int .u8 (r[i].toNat : Int), by rw [← Array.getElem?_toList]; simp [bytesV, hi], rfl⟩
theorem intsAt_lit (w : World) (r : List Int) (n c : Nat) (hn : r.length = n) (h63 : n ≤ 9223372036854775807) : SeqAt IsInt (w.alloc (.cells ⟨r.map (Value.int .i64 ·)⟩ 3)).heap (.slice (some ⟨w.heap.size, 0, none⟩) n c) r :=
  seqAt_lit w _ _ r n c hn h63 fun i hi => ⟨.int .i64 r[i], by rw [← Array.getElem?_toList]; simp [hi], rfl⟩
theorem textsAt_lit (w : World) (r : List ByteArray) (n c : Nat) (hn : r.length = n) (h63 : n ≤ 9223372036854775807) : SeqAt IsText (w.alloc (.cells ⟨r.map (Value.string ·)⟩ 9)).heap (.slice (some ⟨w.heap.size, 0, none⟩) n c) r :=
  seqAt_lit w _ _ r n c hn h63 fun i hi => ⟨.string r[i], by rw [← Array.getElem?_toList]; simp [hi], rfl⟩
/-- A matrix written out: its rows lie in the world already. -/
theorem matAt_lit (w : World) (vs : List Value) (m : List (List UInt8)) (n c : Nat) (hn : m.length = n) (h63 : n ≤ 9223372036854775807) (hl : vs.length = m.length) (h : ∀ i (hi : i < m.length), RowAt w.heap (vs[i]'(by omega)) m[i]) :
    MatAt (w.alloc (.cells ⟨vs⟩ 33)).heap (.slice (some ⟨w.heap.size, 0, none⟩) n c) m :=
  seqAt_lit w _ _ m n c hn h63 fun i hi => ⟨vs[i]'(by omega), by rw [← Array.getElem?_toList]; simp, SeqAt.keeps (w := w) (h i hi) ((Kept.refl _ _).alloc (Nat.le_refl _) _)⟩
theorem RowAt.al {w : World} {v : Value} {r : List UInt8} (h : RowAt w.heap v r) (o : Obj) : RowAt (w.alloc o).heap v r := SeqAt.keeps h ((Kept.refl _ _).alloc (Nat.le_refl _) _)
theorem MatAt.al {w : World} {v : Value} {r : List (List UInt8)} (h : MatAt w.heap v r) (o : Obj) : MatAt (w.alloc o).heap v r := MatAt.keeps h ((Kept.refl _ _).alloc (Nat.le_refl _) _)
theorem Keeps.al {a w : World} (h : Keeps a w) (o : Obj) : Keeps a (w.alloc o) := h.alloc (Nat.le_refl _) o
end Go.Proofs.Ytojdodbedemkoaa
