/- What a hash is in memory: its block, cell by cell. -/
import Derived.Test.YtcapalofocmmoaaShaPrimes
namespace Go.Proofs.Ytcapalofocmmoaa
open Go.RowKit
/-- Block b is a hash: its eight numbers, what is left, how many bytes, the roots' bits. -/
structure HashC (h : Array Obj) (b : Nat) (n : List Nat) (vr : Value) (tot : Nat) (vo : Value) : Prop where
  typ : typH h b = some 68
  now : ∀ i, i < 8 → cellH h b i = some (.int .u32 (n.getD i 0 : Int))
  rest : cellH h b 8 = some vr
  tot : cellH h b 9 = some (.int .i64 (tot : Int))
  roots : cellH h b 10 = some vo
  free : ∀ i, frozH h b i = false
section
variable {w w' : World} {b : Nat} {n : List Nat} {vr : Value} {tot : Nat} {vo : Value}
theorem HashC.lt {h : Array Obj} (c : HashC h b n vr tot vo) : b < h.size := typH_lt c.typ
theorem HashC.any {h : Array Obj} (c : HashC h b n vr tot vo) {i : Nat} (hi : i < 11) : ∃ v, cellH h b i = some v := by
  by_cases h1 : i < 8
  · exact ⟨_, c.now i h1⟩
  · by_cases h2 : i = 8
    · exact ⟨_, h2 ▸ c.rest⟩
    · by_cases h3 : i = 9
      · exact ⟨_, h3 ▸ c.tot⟩
      · exact ⟨_, (show i = 10 by omega) ▸ c.roots⟩
theorem HashC.chg {T : Nat → Prop} (c : HashC w.heap b n vr tot vo) (k : Chg T w w') (hT : ¬ T b) : HashC w'.heap b n vr tot vo :=
  ⟨typH_chg k c.typ hT, fun i hi => cellH_chg k (c.now i hi) hT, cellH_chg k c.rest hT, cellH_chg k c.tot hT, cellH_chg k c.roots hT, fun i => by rw [frozH_chg k c.lt hT]; exact c.free i⟩
theorem HashC.keeps (c : HashC w.heap b n vr tot vo) (k : Keeps w w') : HashC w'.heap b n vr tot vo := c.chg (T := fun _ => False) (Kept.any k) fun x => x
theorem HashC.al (c : HashC w.heap b n vr tot vo) (o : Obj) : HashC (w.alloc o).heap b n vr tot vo := c.keeps (kal w o)
theorem HashC.setNow (c : HashC w.heap b n vr tot vo) {i : Nat} (hi : i < 8) (hn : n.length = 8) (x : Nat) : HashC (w.setCell ⟨b, i, none⟩ (.int .u32 (x : Int))).heap b (n.set i x) vr tot vo := by
  have key := fun j => cellH_set w b i b j (.int .u32 (x : Int)) _ (c.now i hi)
  refine ⟨by rw [typH_set]; exact c.typ, fun j hj => ?_, ?_, ?_, ?_, fun j => by rw [frozH_set]; exact c.free j⟩
  · rw [key]
    by_cases e : i = j
    · subst e
      rw [if_pos ⟨rfl, rfl⟩, List.getD_eq_getElem?_getD, List.getElem?_set_self (by omega)]; rfl
    · rw [if_neg (fun x => e x.2), c.now j hj, List.getD_eq_getElem?_getD, List.getD_eq_getElem?_getD, List.getElem?_set_ne e]
  · rw [key, if_neg (by omega)]; exact c.rest
  · rw [key, if_neg (by omega)]; exact c.tot
  · rw [key, if_neg (by omega)]; exact c.roots
theorem HashC.setRest (c : HashC w.heap b n vr tot vo) (v : Value) : HashC (w.setCell ⟨b, 8, none⟩ v).heap b n v tot vo := by
  have key := fun j => cellH_set w b 8 b j v _ c.rest
  refine ⟨by rw [typH_set]; exact c.typ, fun j hj => ?_, ?_, ?_, ?_, fun j => by rw [frozH_set]; exact c.free j⟩
  · rw [key, if_neg (by omega)]; exact c.now j hj
  · rw [key, if_pos ⟨rfl, rfl⟩]
  · rw [key, if_neg (by omega)]; exact c.tot
  · rw [key, if_neg (by omega)]; exact c.roots
theorem HashC.setTot (c : HashC w.heap b n vr tot vo) (t : Nat) : HashC (w.setCell ⟨b, 9, none⟩ (.int .i64 (t : Int))).heap b n vr t vo := by
  have key := fun j => cellH_set w b 9 b j (.int .i64 (t : Int)) _ c.tot
  refine ⟨by rw [typH_set]; exact c.typ, fun j hj => ?_, ?_, ?_, ?_, fun j => by rw [frozH_set]; exact c.free j⟩
  · rw [key, if_neg (by omega)]; exact c.now j hj
  · rw [key, if_neg (by omega)]; exact c.rest
  · rw [key, if_pos ⟨rfl, rfl⟩]
  · rw [key, if_neg (by omega)]; exact c.roots
theorem HashC.setRoots (c : HashC w.heap b n vr tot vo) (v : Value) : HashC (w.setCell ⟨b, 10, none⟩ v).heap b n vr tot v := by
  have key := fun j => cellH_set w b 10 b j v _ c.roots
  refine ⟨by rw [typH_set]; exact c.typ, fun j hj => ?_, ?_, ?_, ?_, fun j => by rw [frozH_set]; exact c.free j⟩
  · rw [key, if_neg (by omega)]; exact c.now j hj
  · rw [key, if_neg (by omega)]; exact c.rest
  · rw [key, if_neg (by omega)]; exact c.tot
  · rw [key, if_pos ⟨rfl, rfl⟩]
end
theorem seqD {α : Type} {R : Value → α → Prop} {w : World} {p : Option Addr} {n c : Nat} {l : List α} (h : SeqAt R w.heap (.slice p n c) l) (d : α) {i : Nat} (hi : i < l.length) : ∃ b off u, p = some ⟨b, off, none⟩ ∧ w.cell? ⟨b, off + i, none⟩ = some u ∧ R u (l.getD i d) := by
  obtain ⟨b, off, c', u, e, c1, r1⟩ := seq_cell h hi
  injection e with e1 e2 e3
  refine ⟨b, off, u, e1, c1, ?_⟩
  rw [List.getD_eq_getElem?_getD, List.getElem?_eq_getElem hi, Option.getD_some]; exact r1
/-- A hash's cells, as a list. -/
def hashL (n : List Nat) (vr : Value) (tot : Nat) (vo : Value) : List Value := (n.map fun (x : Nat) => Value.int .u32 (x : Int)) ++ [vr, .int .i64 (tot : Int), vo]
theorem HashC.new (w : World) (n : List Nat) (hn : n.length = 8) (vr : Value) (tot : Nat) (vo : Value) : HashC (w.alloc (.cells ⟨hashL n vr tot vo⟩ 68)).heap w.heap.size n vr tot vo := by
  have hc : ∀ i, cellH (w.alloc (.cells ⟨hashL n vr tot vo⟩ 68)).heap w.heap.size i = (hashL n vr tot vo)[i]? := by
    intro i
    rw [← cell_of]
    exact (World.cell?_alloc_new w _ _ i).trans (by rw [← Array.getElem?_toList])
  have hl : (n.map fun (x : Nat) => Value.int .u32 (x : Int)).length = 8 := by rw [List.length_map, hn]
  have hi : ∀ k, (hashL n vr tot vo)[8 + k]? = ([vr, .int .i64 (tot : Int), vo] : List Value)[k]? := fun k => by
    unfold hashL
    rw [List.getElem?_append_right (by omega), hl]; congr 1; omega
  refine ⟨typH_new _ _ _, fun i h8 => ?_, ?_, ?_, ?_, fun i => ?_⟩
  · rw [hc]
    unfold hashL
    rw [List.getElem?_append_left (by omega), List.getElem?_map, List.getD_eq_getElem?_getD, List.getElem?_eq_getElem (by omega)]; rfl
  · rw [hc]; exact hi 0
  · rw [hc]; exact hi 1
  · rw [hc]; exact hi 2
  · rw [← froz_of]; exact World.frozen?_alloc_new w _ _ i
end Go.Proofs.Ytcapalofocmmoaa
