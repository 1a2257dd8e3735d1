/- A map from numbers to payloads that a call makes: what it holds, as a function; its look-up, its store, its length. -/
import Derived.Test.YtllfhaocdknejaaDoorText
import Derived.Maps.OwnSet
import Derived.Maps.RangeWalk
import Derived.Maps.Views
import Derived.Maps.Keyed
namespace Go.Proofs.YtllfhaocdknejaaDoor
open Go.RowKit Go.Maps Go.WideMaps
theorem heldKey : Keyed Tryd.prog 3 := int_keyed Tryd.underlying3
theorem heldZero (w : World) : (zeroValue 64).run Tryd.prog w = .ok (.agg #[.string ⟨#[]⟩]) w := by kernel_rfl
/-- How a held payload reads. -/
def heldD (s : ByteArray) : DataW Unit := .agg [.lit (.string s.data.toList)]
def heldR (v : Value) : Option (DataW Unit × List MemPlace) :=
  match v with
  | .agg ⟨[.string s]⟩ => some (heldD s, [])
  | _ => none
theorem heldR_inv {v : Value} {z : DataW Unit × List MemPlace} (h : heldR v = some z) : ∃ s, v = .agg #[.string s] ∧ z = (heldD s, []) := by
  unfold heldR at h
  split at h
  · cases h; exact ⟨_, rfl, rfl⟩
  · cases h
theorem heldD_inj {s t : ByteArray} (h : heldD s = heldD t) : s = t := by
  unfold heldD at h
  simp only [DataW.agg.injEq, List.cons.injEq, DataW.lit.injEq, Lit.string.injEq, and_true] at h
  cases s; cases t
  simp only [Array.toList_inj] at h
  rw [h]
def inI (x : Int) : Prop := -9223372036854775808 ≤ x ∧ x ≤ 9223372036854775807
/-- Block B is a map of n entries: at number x it holds f x. -/
def HeldM (w : World) (B n : Nat) (f : Int → Option ByteArray) : Prop :=
  ∃ D : DataW Unit, w.ownsMap Tryd.prog 3 heldR B n D ∧ Tidy D ∧ Maps.size D = n ∧ (∀ x, has D (.int .i64 x) = (f x).isSome) ∧ ∀ x s, f x = some s → ∀ z, D.atKey (.int .i64 x) z = heldD s
theorem HeldM.new (w : World) : HeldM (w.alloc (.map #[] 0)) w.heap.size 0 (fun _ => none) :=
  ⟨.map [], World.ownsMap_made _ _ _ _, tidy_empty, rfl, fun _ => rfl, fun _ _ h => by cases h⟩
theorem HeldM.lt {w : World} {B n : Nat} {f : Int → Option ByteArray} (h : HeldM w B n f) : B < w.heap.size := let ⟨_, h, _⟩ := h; h.lt
theorem HeldM.chg {T : Nat → Prop} {w w' : World} {B n : Nat} {f : Int → Option ByteArray} (h : HeldM w B n f) (c : Chg T w w') (hT : ¬ T B) : HeldM w' B n f := by
  have hl := h.lt
  obtain ⟨D, ⟨es, clock, hb, r⟩, h2⟩ := h
  exact ⟨D, ⟨es, clock, (c.2.2.2.2 B hl hT).trans hb, r⟩, h2⟩
theorem HeldM.keeps {w w' : World} {B n : Nat} {f : Int → Option ByteArray} (h : HeldM w B n f) (k : Keeps w w') : HeldM w' B n f := h.chg (T := fun _ => False) (Kept.any k) fun x => x
theorem HeldM.congr {w : World} {B n : Nat} {f g : Int → Option ByteArray} (h : HeldM w B n f) (e : ∀ s, f s = g s) : HeldM w B n g := by rw [← funext e]; exact h
theorem wf_in {x : Int} (h : inI x) : (Lit.int .i64 x).wf = true := WalkArith.wf_i64 h
section
variable {w : World} {ops : Array Oper} {rest : List Oper} {o : Oper} {a : Act} {Q : Exit → Act → World → Prop}
/-- 'v, ok := m[x]' -/
theorem wp_held_look (hg : o.guard = none) (m x : Operand) (hop : o.op = Op.lookup 56 m x true) (B n : Nat) (f : Int → Option ByteArray) (hm : a.eval m = .map (some B)) (h : HeldM w B n f) (z : Int) (hx : a.eval x = .int .i64 z) (hz : inI z)
    (hK : ∀ s, wpList Tryd.prog ops Q rest (a.put o.dst (.tuple #[.agg #[.string s], .bool (f z).isSome])) w) : wpList Tryd.prog ops Q (o :: rest) a w := by
  obtain ⟨D, hown, _, _, hhas, _⟩ := h
  refine wpList_lookup_own_ok w hg m x 56 hop 3 64 heldKey Tryd.underlying56 heldR (heldZero w) (heldD ⟨#[]⟩) [] rfl B n D hm hown _ _ hx (keyOf_int_mk Tryd.underlying3 (wf_in hz)) fun v ps hv => ?_
  obtain ⟨s, rfl, _⟩ := heldR_inv hv
  rw [hhas]
  exact hK s
/-- 'm[x] = held{s}', x a new number -/
theorem wp_held_put (hg : o.guard = none) (m x v : Operand) (hop : o.op = Op.mapUpdate 56 m x v) (B n : Nat) (f : Int → Option ByteArray) (hm : a.eval m = .map (some B)) (h : HeldM w B n f) (hn : n < 9223372036854775807) (z : Int) (hx : a.eval x = .int .i64 z) (hz : inI z)
    (hnew : f z = none) (s : ByteArray) (hv : a.eval v = .agg #[.string s])
    (hK : ∀ w', HeldM w' B (n + 1) (fun t => if t = z then some s else f t) → Chg (fun k => k = B) w w' → wpList Tryd.prog ops Q rest (a.put o.dst undef) w') : wpList Tryd.prog ops Q (o :: rest) a w := by
  obtain ⟨D, hown, hD, hsz, hhas, hat⟩ := h
  refine wpList_mapUpdate_own w hg m x v 56 hop 3 64 heldKey Tryd.underlying56 _ B n D hm hown (by unfold maxLen; omega) _ _ (.int .i64 z) hx hv (keyOf_int_mk Tryd.underlying3 (wf_in hz)) (heldD s) [] rfl fun w' h1 h2 => ?_
  have hno : has D (.int .i64 z) = false := by rw [hhas, hnew]; rfl
  refine hK w' ⟨_, h1, hD.put (by trivial) _, by rw [size_put hD, hno, hsz]; rfl, fun t => ?_, fun t u ht z' => ?_⟩ ((Chg.refl _ w).grown h2 fun k hk _ => (Option.some.inj hk).symm)
  · show _ = (if t = z then some s else f t).isSome
    by_cases e : t = z
    · subst e; rw [if_pos rfl, has_put_same hD.isMap (by trivial)]; rfl
    · rw [if_neg e, has_put_other (fun x => e (by simp only [Lit.int.injEq, true_and] at x; exact x)), hhas]
  · replace ht : (if t = z then some s else f t) = some u := ht
    by_cases e : t = z
    · subst e; rw [if_pos rfl] at ht; cases ht; rw [atKey_put_same hD.isMap (by trivial)]
    · rw [if_neg e] at ht
      rw [atKey_put_other (fun x => e (by simp only [Lit.int.injEq, true_and] at x; exact x)), hat t u ht]
/-- 'len(m)' -/
theorem wp_held_len (hg : o.guard = none) (m : Operand) (hop : o.op = Op.call { callee := .builtin .len, args := #[m], argTypes := #[56] }) (B n : Nat) (f : Int → Option ByteArray) (hm : a.eval m = .map (some B)) (h : HeldM w B n f)
    (hK : wpList Tryd.prog ops Q rest (a.put o.dst (.int .i64 (n : Int))) w) : wpList Tryd.prog ops Q (o :: rest) a w := by
  obtain ⟨D, hown, _, hsz, _⟩ := h
  refine wpList_len_own w hg m 56 hop 3 64 Tryd.underlying56 heldR B n D hm hown ?_
  rw [hsz]; exact hK
end
end Go.Proofs.YtllfhaocdknejaaDoor
