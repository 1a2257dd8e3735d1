/- Small facts that all walks here share: bits of naturals, cells of a heap, what a call keeps. No program in sight. -/
import Derived.WalkKit
import Derived.WalkSpells
import Derived.WalkLawsBesides
import Derived.Handy
import Derived.Deep.QuietTactic
import Derived.BigQuiet
import Derived.Lib.Hide
namespace Go.Proofs.YtdpfanifagfciaaDoor
open Go.RowKit

theorem bits_nat (op : BinOp) (k : IntKind) (a b m : Nat) (ha : a < 2 ^ k.bits) (hb : b < 2 ^ k.bits) (f : Nat → Nat → Nat)
    (hf : ∀ x y : BitVec k.bits, (match op with | .and => x &&& y | .or => x ||| y | .xor => x ^^^ y | _ => x &&& ~~~y).toNat = f x.toNat y.toNat)
    (hm : f a b = m) (hw : k.wrap (m : Int) = (m : Int)) : bits op k (a : Int) (b : Int) = (m : Int) := by
  have h1 : (BitVec.ofInt k.bits (a : Int)).toNat = a := by rw [BitVec.ofInt_natCast, BitVec.toNat_ofNat]; exact Nat.mod_eq_of_lt ha
  have h2 : (BitVec.ofInt k.bits (b : Int)).toNat = b := by rw [BitVec.ofInt_natCast, BitVec.toNat_ofNat]; exact Nat.mod_eq_of_lt hb
  refine (congrArg (fun n : Nat => k.wrap (n : Int)) (hf (BitVec.ofInt k.bits (a : Int)) (BitVec.ofInt k.bits (b : Int)))).trans ?_
  show k.wrap ((f (BitVec.ofInt k.bits (a : Int)).toNat (BitVec.ofInt k.bits (b : Int)).toNat : Nat) : Int) = _
  rw [h1, h2, hm, hw]

theorem xor_u8 (a b : Nat) (ha : a < 256) (hb : b < 256) : bits .xor .u8 (a : Int) (b : Int) = ((a ^^^ b : Nat) : Int) :=
  bits_nat .xor .u8 a b _ ha hb (· ^^^ ·) (fun x y => BitVec.toNat_xor x y) rfl (IntWalk.u8_in _ (by have := Nat.xor_lt_two_pow (n := 8) ha hb; omega))
theorem xor_i64 (a b : Nat) (ha : a < 4611686018427387904) (hb : b < 4611686018427387904) : bits .xor .i64 (a : Int) (b : Int) = ((a ^^^ b : Nat) : Int) := by
  have h : a ^^^ b < 4611686018427387904 := Nat.xor_lt_two_pow (n := 62) ha hb
  have e : (2 : Nat) ^ IntKind.i64.bits = 18446744073709551616 := rfl
  exact bits_nat .xor .i64 a b _ (by omega) (by omega) (· ^^^ ·) (fun x y => BitVec.toNat_xor x y) rfl (IntWalk.i64_in _ (by omega))
theorem and_u8 (a b : Nat) (ha : a < 256) (hb : b < 256) : bits .and .u8 (a : Int) (b : Int) = ((a &&& b : Nat) : Int) :=
  bits_nat .and .u8 a b _ ha hb (· &&& ·) (fun x y => BitVec.toNat_and x y) rfl (IntWalk.u8_in _ (by have := Nat.and_lt_two_pow (n := 8) a hb; omega))
theorem and_i64 (a b : Nat) (ha : a < 4611686018427387904) (hb : b < 4611686018427387904) : bits .and .i64 (a : Int) (b : Int) = ((a &&& b : Nat) : Int) := by
  have h : a &&& b < 4611686018427387904 := Nat.and_lt_two_pow (n := 62) a hb
  have e : (2 : Nat) ^ IntKind.i64.bits = 18446744073709551616 := rfl
  exact bits_nat .and .i64 a b _ (by omega) (by omega) (· &&& ·) (fun x y => BitVec.toNat_and x y) rfl (IntWalk.i64_in _ (by omega))

/-- The cell i of block b. -/
def cellH (h : Array Obj) (b i : Nat) : Option Value := match h[b]? with | some (.cells c _ _) => c[i]? | _ => none
/-- May a cell of block b not be written? -/
def frozH (h : Array Obj) (b i : Nat) : Bool := match h[b]? with | some (.cells _ _ (lo, hi)) => lo ≤ i && i < hi | _ => false
theorem cell_of (w : World) (b i : Nat) : w.cell? ⟨b, i, none⟩ = cellH w.heap b i := by
  unfold World.cell? cellH; simp only [Option.isSome_none]; rfl
theorem froz_of (w : World) (b i : Nat) : w.frozen? ⟨b, i, none⟩ = frozH w.heap b i := rfl
theorem cellH_set (w : World) (b i c j : Nat) (v u : Value) (h : cellH w.heap b i = some u) :
    cellH (w.setCell ⟨b, i, none⟩ v).heap c j = if b = c ∧ i = j then some v else cellH w.heap c j := by
  rw [← cell_of, ← cell_of]
  split
  · rename_i e; obtain ⟨rfl, rfl⟩ := e; exact World.cell?_setCell_same _ _ _ (by rw [cell_of]; exact h)
  · rename_i e; exact World.cell?_setCell_other _ _ _ _ (fun x => e (by cases x; exact ⟨rfl, rfl⟩))
theorem frozH_set (w : World) (a : Addr) (c j : Nat) (v : Value) : frozH (w.setCell a v).heap c j = frozH w.heap c j := by
  rw [← froz_of, ← froz_of, World.frozen?_setCell]
theorem cellH_below {B : Nat} {w w' : World} (h : Below B w w') {b i : Nat} (hb : b < B) : cellH w'.heap b i = cellH w.heap b i := by
  unfold cellH; rw [h.block b hb]
theorem frozH_below {B : Nat} {w w' : World} (h : Below B w w') {b i : Nat} (hb : b < B) : frozH w'.heap b i = frozH w.heap b i := by
  unfold frozH; rw [h.block b hb]
theorem cellH_lt {h : Array Obj} {b i : Nat} {v : Value} (e : cellH h b i = some v) : b < h.size := by
  rcases Nat.lt_or_ge b h.size with h' | h'
  · exact h'
  · unfold cellH at e; rw [Array.getElem?_eq_none h'] at e; cases e

/-- What a call keeps: below block B all is as it was; no block has gone. (Said of the world's parts: a draw turns none of them, by definition.) -/
def Kept (B : Nat) (w w' : World) : Prop :=
  w'.os = w.os ∧ w'.tape = w.tape ∧ w'.output = w.output ∧ w.heap.size ≤ w'.heap.size ∧ ∀ k, k < B → w'.heap[k]? = w.heap[k]?
abbrev Keeps (w w' : World) : Prop := Kept w.heap.size w w'
theorem Kept.below {B : Nat} {w w' : World} (h : Kept B w w') : Below B w w' := ⟨h.1, h.2.1, h.2.2.1, h.2.2.2.1, h.2.2.2.2⟩
theorem _root_.Go.RowKit.Below.kept {B : Nat} {w w' : World} (h : Below B w w') : Kept B w w' := ⟨h.os, h.tape, h.output, h.size, h.block⟩
theorem Kept.size {B : Nat} {w w' : World} (h : Kept B w w') : w.heap.size ≤ w'.heap.size := h.2.2.2.1
theorem Kept.refl (B : Nat) (w : World) : Kept B w w := (Below.refl B w).kept
theorem Kept.mono {B B' : Nat} {w w' : World} (h : Kept B w w') (hB : B' ≤ B) : Kept B' w w' := (h.below.mono hB).kept
theorem Kept.then {B B' : Nat} {a b c : World} (h : Kept B a b) (k : Kept B' b c) (hB : B ≤ B') : Kept B a c := (h.below.trans (k.mono hB).below).kept
/-- A call that keeps all, behind what kept the blocks below B. -/
theorem Kept.call {B : Nat} {a b c : World} (h : Kept B a b) (k : Keeps b c) (hB : B ≤ a.heap.size) : Kept B a c := h.then k (Nat.le_trans hB h.size)
theorem Keeps.trans {a b c : World} (h : Keeps a b) (k : Keeps b c) : Keeps a c := h.then k h.size
theorem Kept.alloc {B : Nat} {a w : World} (h : Kept B a w) (hB : B ≤ a.heap.size) (o : Obj) : Kept B a (w.alloc o) := (h.below.alloc (Nat.le_trans hB h.size) o).kept
theorem Kept.setCell {B : Nat} {a w : World} (h : Kept B a w) {p : Addr} (hp : B ≤ p.block) (u : Value) : Kept B a (w.setCell p u) := (h.below.setCell hp u).kept
theorem keeps_refl (w : World) : Keeps w w := Kept.refl _ _
theorem cellH_kept {B : Nat} {w w' : World} (h : Kept B w w') {b i : Nat} (hb : b < B) : cellH w'.heap b i = cellH w.heap b i := cellH_below h.below hb
theorem frozH_kept {B : Nat} {w w' : World} (h : Kept B w w') {b i : Nat} (hb : b < B) : frozH w'.heap b i = frozH w.heap b i := frozH_below h.below hb
theorem ret_int {k : IntKind} {a b : Int} (h : a = b) : Ending.returned (.int k a) = .returned (.int k b) := by rw [h]
end Go.Proofs.YtdpfanifagfciaaDoor
