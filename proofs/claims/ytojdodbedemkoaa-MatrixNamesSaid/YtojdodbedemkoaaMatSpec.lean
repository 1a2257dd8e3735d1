/- What package matrix tells, as plain functions; texts of bytes. No program in sight. -/
import Derived.Test.YtojdodbedemkoaaSeq
import Derived.Test.YtojdodbedemkoaaLin
namespace Go.Proofs.Ytojdodbedemkoaa
open Go.RowKit

/-- May a code be? -/
def codeB (k n : Int) : Bool := decide (1 ≤ k ∧ k ≤ n ∧ n ≤ 12)
/-- The matrix of what a function says. -/
def matOf (rows cols : Nat) (g : Nat → Nat → UInt8) : List (List UInt8) := (List.range rows).map fun i => (List.range cols).map (g i)
def oneAt (i j : Nat) : UInt8 := if i = j then 1 else 0
/-- A code's matrix at row i, column j. -/
def codeAt (k : Nat) (i j : Nat) : UInt8 := if i < k then oneAt i j else LA.inv (UInt8.ofNat (i ^^^ j))

/-- A code's matrix, or how it is refused. -/
def ofM (k n : Int) : List (List UInt8) × Int := if codeB k n then (matOf n.toNat k.toNat (codeAt k.toNat), 0) else ([], 1)
def oneM (n : Int) : List (List UInt8) × Int := if decide (1 ≤ n ∧ n ≤ 12) then (matOf n.toNat n.toNat oneAt, 0) else ([], 1)
/-- What a call hands back: a matrix in new memory, and an error's number. -/
def GiveMat (w : World) (r : List (List UInt8) × Int) (e : Ending) (w' : World) : Prop := ∃ v, e = .returned (.tuple #[v, .int .i64 r.2]) ∧ MatIn (w.heap.size ≤ ·) w'.heap v r.1 ∧ Keeps w w'
/-- A list of bytes in new memory, and an error's number. -/
def GiveRow (w : World) (r : List UInt8 × Int) (e : Ending) (w' : World) : Prop := ∃ v, e = .returned (.tuple #[v, .int .i64 r.2]) ∧ RowIn (w.heap.size ≤ ·) w'.heap v r.1 ∧ Keeps w w'
theorem GiveMat.err {w w' : World} {r : Int} (k : Keeps w w') : GiveMat w ([], r) (.returned (.tuple #[.slice none 0 0, .int .i64 r])) w' := ⟨_, rfl, SeqIn.nil _ _ _ _, k⟩
theorem GiveRow.err {w w' : World} {r : Int} (k : Keeps w w') : GiveRow w ([], r) (.returned (.tuple #[.slice none 0 0, .int .i64 r])) w' := ⟨_, rfl, SeqIn.nil _ _ _ _, k⟩

/-- A text of bytes. -/
def strB (r : List UInt8) : ByteArray := ⟨r.toArray⟩
theorem toList_eq (s : ByteArray) : s.toList = s.data.toList := by
  exact ByteArray.toList_eq s
theorem strB_toList (r : List UInt8) : (strB r).toList = r := by rw [toList_eq]; rfl
theorem strB_size (r : List UInt8) : (strB r).size = r.length := by simp [strB, ByteArray.size]
theorem strB_inj {r s : List UInt8} (h : strB r = strB s) : r = s := by have := congrArg ByteArray.toList h; rwa [strB_toList, strB_toList] at this
theorem strB_data (s : ByteArray) : strB s.data.toList = s := by cases s; rfl

theorem conv_none {P : Program} (w : World) (src e : TypeId) (hs : P.underlying src = some (.slice e)) (he : P.underlying e = some (.int .u8)) (p : Option Addr) (c : Nat) :
    ∀ dst, P.underlying dst = some .string → (convert src dst (.slice p 0 c)).run P w = .ok (.string ByteArray.empty) w := by
  intro dst hd
  rw [run_convert_bytes_string w src dst e _ 0 c hs he hd]
  cases p <;> simp [Conv.bytesToString, loadCells]
  all_goals rfl
/-- 'string(v)' of a row of bytes. -/
theorem conv_row {P : Program} {src dst e : TypeId} (hs : P.underlying src = some (.slice e)) (he : P.underlying e = some (.int .u8)) (hd : P.underlying dst = some .string)
    {w : World} {v : Value} {r : List UInt8} (h : RowAt w.heap v r) : (convert src dst v).run P w = .ok (.string (strB r)) w := by
  obtain ⟨a, cap, rfl, hl, hel⟩ := h
  by_cases h0 : r.length = 0
  · have hr : r = [] := List.length_eq_zero_iff.1 h0
    subst hr
    exact conv_none w src e hs he a cap dst hd
  · obtain ⟨b, off, u, rfl, _, _⟩ := hel 0 (by omega)
    refine run_convert_bytes_back w src dst e _ cap r hs he hd fun j hj => ?_
    obtain ⟨b', off', u', e1, e2, e3⟩ := hel j hj
    simp only [Option.some.injEq, Addr.mk.injEq] at e1
    obtain ⟨rfl, rfl, _⟩ := e1
    have hadd : (⟨b, off, none⟩ : Addr).add j = ⟨b, off + j, none⟩ := by unfold Addr.add; split <;> simp_all
    rw [hadd, cell_of, e2, e3]
end Go.Proofs.Ytojdodbedemkoaa
