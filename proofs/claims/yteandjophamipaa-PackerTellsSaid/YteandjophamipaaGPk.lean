/- Packs, each in a stretch of blocks of its own, one behind the other. -/
import Derived.Test.YteandjophamipaaGOne
namespace Go.Proofs.Yteandjophamipaa
open Go.RowKit
/-- A pack, and the stretch of blocks that it lies in. -/
abbrev PkAt := List ByteArray × Nat × Nat
def IsPk (h : Array Obj) (us : List Value) (x : PkAt) : Prop := IsPack (fun b => x.2.1 ≤ b ∧ b < x.2.2) h us x.1
def ChainP (N H : Nat) (ls : List PkAt) : Prop := (∀ x ∈ ls, N ≤ x.2.1 ∧ x.2.2 ≤ H) ∧ ls.Pairwise fun a b => a.2.2 ≤ b.2.1
def OwnPk (N H : Nat) (E : TypeId) (w : World) (v : Value) (out : List (List ByteArray)) : Prop := ∃ ls : List PkAt, ls.map (·.1) = out ∧ ChainP N H ls ∧ OwnRec N E 4 (IsPk w.heap) w v ls
def PacksIn (N H : Nat) (E : TypeId) (h : Array Obj) (v : Value) (gs : List (List ByteArray)) : Prop := ∃ ls : List PkAt, ls.map (·.1) = gs ∧ ChainP N H ls ∧ RecIn (N ≤ ·) E 4 (IsPk h) h v ls
section
variable {N H H' : Nat} {E : TypeId} {w w' : World} {v : Value} {out : List (List ByteArray)} {ls : List PkAt} {T : Nat → Prop}
theorem ChainP.mono (h : ChainP N H ls) (k : H ≤ H') : ChainP N H' ls := ⟨fun x hx => ⟨(h.1 x hx).1, Nat.le_trans (h.1 x hx).2 k⟩, h.2⟩
theorem ChainP.snoc {x : PkAt} (h : ChainP N H ls) (k : H ≤ x.2.1) (h1 : N ≤ x.2.1) (h2 : x.2.2 ≤ H') (hH : H ≤ H') : ChainP N H' (ls ++ [x]) := by
  refine ⟨fun y hy => ?_, ?_⟩
  · rcases List.mem_append.1 hy with hy | hy
    · exact (h.mono hH).1 y hy
    · rw [List.mem_singleton.1 hy]; exact ⟨h1, h2⟩
  · rw [List.pairwise_append]
    exact ⟨h.2, List.pairwise_singleton _ _, fun a ha b hb => by rw [List.mem_singleton.1 hb]; exact Nat.le_trans (h.1 a ha).2 k⟩
theorem OwnPk.nil (N H : Nat) (E : TypeId) (w : World) : OwnPk N H E w (.slice none 0 0) [] := ⟨[], rfl, ⟨fun _ h => absurd h (by simp), List.Pairwise.nil⟩, OwnRec.nil _ _ _ _ _⟩
theorem OwnPk.mono (h : OwnPk N H E w v out) (k : H ≤ H') : OwnPk N H' E w v out := let ⟨ls, e, c, o⟩ := h; ⟨ls, e, c.mono k, o⟩
theorem OwnPk.chg (h : OwnPk N H E w v out) (c : Chg T w w') (ht : ∀ q, N ≤ q → q < w.heap.size → typH w.heap q = some E → ¬ T q) (hs : ∀ b, b < w.heap.size → N ≤ b → b < H → typH w.heap b = some 9 ∨ typH w.heap b = some 54 → ¬ T b) : OwnPk N H E w' v out := by
  obtain ⟨ls, e, hc, ho⟩ := h
  exact ⟨ls, e, hc, ho.chg c ht fun a x hx k => IsPack.chg (S := fun b => x.2.1 ≤ b ∧ b < x.2.2) k c fun b hb hs' ht' => hs b hb (Nat.le_trans (hc.1 x hx).1 hs'.1) (Nat.lt_of_lt_of_le hs'.2 (hc.1 x hx).2) ht'⟩
theorem OwnPk.keeps (h : OwnPk N H E w v out) (c : Keeps w w') : OwnPk N H E w' v out := h.chg (T := fun _ => False) (Kept.any c) (fun _ _ _ _ x => x) fun _ _ _ _ _ x => x
theorem OwnPk.seq (h : OwnPk N H E w v out) (hl : out.length ≤ 9223372036854775807) : PacksIn N H E w.heap v out := by
  obtain ⟨ls, e, hc, ho⟩ := h
  exact ⟨ls, e, hc, ho.seq (by have := congrArg List.length e; rw [List.length_map] at this; omega)⟩
theorem PacksIn.recs {h : Array Obj} {gs : List (List ByteArray)} (k : PacksIn N H E h v gs) : RecIn (N ≤ ·) E 4 (IsPack (fun b => N ≤ b ∧ b < H) h) h v gs := by
  obtain ⟨ls, e, hc, a, cap, e1, hl, hel⟩ := k
  subst e
  refine ⟨a, cap, by rw [e1, List.length_map], by rw [List.length_map]; exact hl, fun i hi => ?_⟩
  rw [List.length_map] at hi
  obtain ⟨b, off, us, x1, x2, x3, x4, x5⟩ := hel i hi
  refine ⟨b, off, us, x1, x2, x3, x4, ?_⟩
  rw [List.getElem_map]
  have := hc.1 ls[i] (List.getElem_mem hi)
  exact IsPack.mono x5 fun q hq => ⟨Nat.le_trans this.1 hq.1, Nat.lt_of_lt_of_le hq.2 this.2⟩
theorem PacksIn.grow {N' : Nat} {h : Array Obj} {gs : List (List ByteArray)} (k : PacksIn N H E h v gs) (hN : N' ≤ N) (hH : H ≤ H') : PacksIn N' H' E h v gs := by
  obtain ⟨ls, e, hc, hr⟩ := k
  exact ⟨ls, e, ⟨fun x hx => ⟨Nat.le_trans hN (hc.1 x hx).1, Nat.le_trans (hc.1 x hx).2 hH⟩, hc.2⟩, hr.mono (fun _ hb => Nat.le_trans hN hb) fun _ _ x => x⟩
end
end Go.Proofs.Yteandjophamipaa
