/- A block that is known whole: its cells, what a store turns of it, what keeps it. No program in sight. -/
import Derived.Test.YtllfhaocdknejaaDoorText
namespace Go.Proofs.YtllfhaocdknejaaDoor
open Go.RowKit
/-- Block b is a row of just these cells, and may be written. -/
def BlkAt (w : World) (b : Nat) (t : TypeId) (cs : Array Value) : Prop := w.heap[b]? = some (.cells cs t (0, 0))
theorem BlkAt.lt {w : World} {b : Nat} {t : TypeId} {cs : Array Value} (h : BlkAt w b t cs) : b < w.heap.size := (Array.getElem?_eq_some_iff.1 h).1
theorem BlkAt.typ {w : World} {b : Nat} {t : TypeId} {cs : Array Value} (h : BlkAt w b t cs) : typH w.heap b = some t := typH_of h
theorem BlkAt.cell {w : World} {b : Nat} {t : TypeId} {cs : Array Value} (h : BlkAt w b t cs) {i : Nat} {v : Value} (e : cs[i]? = some v) : w.cell? ⟨b, i, none⟩ = some v := by
  rw [cell_of]; unfold cellH; rw [h]; exact e
theorem BlkAt.froz {w : World} {b : Nat} {t : TypeId} {cs : Array Value} (h : BlkAt w b t cs) (i : Nat) : w.frozen? ⟨b, i, none⟩ = false := by
  rw [froz_of]; unfold frozH; rw [h]; simp
theorem BlkAt.new (w : World) (t : TypeId) (cs : Array Value) : BlkAt (w.alloc (.cells cs t)) w.heap.size t cs := heap_alloc_new w _
theorem BlkAt.chg {T : Nat → Prop} {w w' : World} {b : Nat} {t : TypeId} {cs : Array Value} (h : BlkAt w b t cs) (c : Chg T w w') (hn : ¬ T b) : BlkAt w' b t cs := by
  show w'.heap[b]? = _; rw [c.2.2.2.2 b h.lt hn]; exact h
theorem BlkAt.keeps {w w' : World} {b : Nat} {t : TypeId} {cs : Array Value} (h : BlkAt w b t cs) (c : Keeps w w') : BlkAt w' b t cs := h.chg (T := fun _ => False) (Kept.any c) fun x => x
theorem BlkAt.set {w : World} {b : Nat} {t : TypeId} {cs : Array Value} (h : BlkAt w b t cs) (i : Nat) (v : Value) : BlkAt (w.setCell ⟨b, i, none⟩ v) b t (cs.setIfInBounds i v) := by
  show (w.setCell ⟨b, i, none⟩ v).heap[b]? = _
  simp only [World.setCell, Array.getElem?_modify, if_true]
  rw [h]; simp
theorem BlkAt.other {w : World} {b c i : Nat} {t : TypeId} {cs : Array Value} (h : BlkAt w b t cs) (hne : c ≠ b) (v : Value) : BlkAt (w.setCell ⟨c, i, none⟩ v) b t cs := by
  show (w.setCell ⟨c, i, none⟩ v).heap[b]? = _
  rw [Below.heap_setCell _ _ _ _ (fun e => hne e.symm)]; exact h
/-- The world behind a store into one cell. -/
theorem chg_set (w : World) (b i : Nat) (v : Value) : Chg (fun k => k = b) w (w.setCell ⟨b, i, none⟩ v) := Chg.setCell (p := ⟨b, i, none⟩) (T := fun k => k = b) (Chg.refl _ w) (fun _ => rfl) v
theorem chg_row (w : World) (g : Nat) (c : Array Value) : Chg (fun k => k = g) w (w.setRow g c) :=
  ⟨rfl, rfl, rfl, by simp [World.setRow], fun k _ hn => by
    simp only [World.setRow, Array.getElem?_modify]
    rw [if_neg (fun e => hn e.symm)]⟩
theorem chg_kept {T : Nat → Prop} {B : Nat} {w w' : World} (c : Chg T w w') (hT : ∀ k, k < w.heap.size → T k → B ≤ k) (hB : B ≤ w.heap.size) : Kept B w w' := Chg.kept (c.mono hT) hB
theorem own_slice {w : World} {base : Nat} {E : TypeId} {v : Value} {n : Nat} {us : List Value} (h : w.ownsRow base E 1 v n us) : ∃ p c, v = .slice p n c := by
  rcases h.2 with ⟨rfl, hn⟩ | ⟨g, cap, cur, rfl, _⟩
  · exact ⟨none, 0, by rw [hn]⟩
  · exact ⟨_, _, rfl⟩
end Go.Proofs.YtllfhaocdknejaaDoor
