/- Calls' answers under their plain names; a matrix's first row, where it lies. No program in sight but its numbers. -/
import Derived.Test.YtojdodbedemkoaaMatSame
import Derived.Test.YtojdodbedemkoaaMatMul
import Derived.Test.YtojdodbedemkoaaMatLaw
import Derived.Test.YtojdodbedemkoaaSame03
namespace Go.Proofs.Ytojdodbedemkoaa
open Go.RowKit
theorem gave {f : FuncId} {xs : Array Value} {w : World} {r r' : List (List UInt8) × Int} (h : Calls Try.prog f xs w (GiveMat w r)) (e : r = r') : Calls Try.prog f xs w (GiveMat w r') := e ▸ h
theorem gaveR {f : FuncId} {xs : Array Value} {w : World} {r r' : List UInt8 × Int} (h : Calls Try.prog f xs w (GiveRow w r)) (e : r = r') : Calls Try.prog f xs w (GiveRow w r') := e ▸ h
theorem kept {f : FuncId} {xs : Array Value} {w : World} {x : Ending} (h : Calls Try.prog f xs w fun e w' => e = x ∧ ∃ n, w' = w.drewN n) : Calls Try.prog f xs w fun e w' => e = x ∧ Keeps w w' :=
  h.mono fun _ _ ⟨a, n, b⟩ => ⟨a, by rw [b]; exact keeps_refl w⟩
theorem matsame_yes (va vb : Value) (ma mb : List (List UInt8)) (w : World) (ha : MatAt w.heap va ma) (hb : MatAt w.heap vb mb) (h : ma = mb) :
    Calls Try.prog 32 #[va, vb] w fun e w' => e = .returned (.bool true) ∧ ∃ n, w' = w.drewN n := by
  have := matsame_any va vb ma mb w ha hb; rwa [decide_eq_true h] at this
theorem matsame_no (va vb : Value) (ma mb : List (List UInt8)) (w : World) (ha : MatAt w.heap va ma) (hb : MatAt w.heap vb mb) (h : ¬ ma = mb) :
    Calls Try.prog 32 #[va, vb] w fun e w' => e = .returned (.bool false) ∧ ∃ n, w' = w.drewN n := by
  have := matsame_any va vb ma mb w ha hb; rwa [decide_eq_false h] at this
theorem mat_addr {h : Array Obj} {p : Option Addr} {n q : Nat} {m : List (List UInt8)} (s : MatAt h (.slice p n q) m) (h1 : 0 < m.length) : ∃ b off, p = some ⟨b, off, none⟩ := by
  obtain ⟨a, c, e, _, hel⟩ := s
  injection e with e1 e2 e3
  obtain ⟨b, off, u, e4, _, _⟩ := hel 0 h1
  exact ⟨b, off, e1.trans e4⟩
theorem row0y {w : World} {b off n q : Nat} {m : List (List UInt8)} (s : MatAt w.heap (.slice (some ⟨b, off, none⟩) n q) m) (h1 : 0 < m.length) :
    ∃ a ca, w.cell? ⟨b, off, none⟩ = some (.slice a (m.headD []).length ca) := by
  obtain ⟨a, c, e, _, hel⟩ := s
  injection e with e1 e2 e3
  obtain ⟨b', off', u, e4, e5, e6⟩ := hel 0 h1
  rw [← e1] at e4
  simp only [Option.some.injEq, Addr.mk.injEq] at e4
  obtain ⟨rfl, rfl, _⟩ := e4
  obtain ⟨p, q, rfl⟩ := seq_shape e6
  refine ⟨p, q, ?_⟩
  rw [cell_of]
  have : m.headD [] = m[0] := by cases m with | nil => simp at h1 | cons x xs => rfl
  rw [this]; exact e5
theorem strB_same (r : List UInt8) : ((strB r).toList == (strB r).toList) = true := by simp
end Go.Proofs.Ytojdodbedemkoaa
