/- The walks of the laws' own is and works. -/
import Derived.Test.YtojdodbedemkoaaSame03
import Derived.Test.YtojdodbedemkoaaMatSame
import Derived.Test.YtojdodbedemkoaaMatVec
import Derived.Test.YtojdodbedemkoaaMatRows
import Derived.Test.YtojdodbedemkoaaLit
namespace Go.Proofs.Ytojdodbedemkoaa
open Go.RowKit

theorem seq_cell {α : Type} {R : Value → α → Prop} {w : World} {v : Value} {l : List α} (h : SeqAt R w.heap v l) {i : Nat} (hi : i < l.length) : ∃ b off c u, v = .slice (some ⟨b, off, none⟩) l.length c ∧ w.cell? ⟨b, off + i, none⟩ = some u ∧ R u l[i] := by
  obtain ⟨a, ca, rfl, hla, hea⟩ := h
  obtain ⟨b, off, u, rfl, c1, r1⟩ := hea i hi
  rw [← cell_of] at c1
  exact ⟨b, off, ca, u, rfl, c1, r1⟩
theorem txt_eq (r s : ByteArray) : (r.toList == s.toList) = decide (r = s) := by
  by_cases h : r = s
  · subst h; simp
  · rw [decide_eq_false h]
    refine beq_eq_false_iff_ne.2 fun e => h ?_
    rw [toList_eq, toList_eq] at e
    cases r; cases s; simp only [Array.toList_inj] at e; rw [e]

set_option maxRecDepth 100000 in
set_option maxHeartbeats 1000000 in
theorem is_any (va vs : Value) (m : List (List UInt8)) (l : List ByteArray) (w : World) (hm : MatAt w.heap va m) (hs : SeqAt IsText w.heap vs l) :
    Calls Try.prog 53 #[va, vs] w fun e w' => e = .returned (.bool (decide (m.map strB = l))) ∧ ∃ n, w' = w.drewN n := by
  obtain ⟨p, q, rfl⟩ := seq_shape hm
  obtain ⟨ps, qs, rfl⟩ := seq_shape hs
  have hl0 : m.length ≤ 9223372036854775807 := by obtain ⟨_, _, _, h, _⟩ := hm; exact h
  have HM := Lib.hid hm
  have HS := Lib.hid hs
  clear hm hs
  by_cases hl : m.length = l.length
  · have HL := Lib.hid hl
    have hl2 : (((m.length : Nat) : Int) != ((l.length : Nat) : Int)) = false := by rw [bne_eq_false_iff_eq, hl]
    clear hl
    go_enter Try.func53, Try.ntmps53
    go_wp2
    clear hl2
    go_loopw [5] (fun i wr => ∃ k : Nat, k ≤ m.length ∧ i = .int .i64 k ∧ Hid (∀ j (h : j < m.length) (h' : j < l.length), j < k → strB m[j] = l[j]) ∧ ∃ n, wr = w.drewN n) (fun i _ => m.length - (intOf i).toNat)
    case atStart => exact ⟨0, by omega, rfl, fun j _ _ h => by omega, 0, rfl⟩
    case round =>
      obtain ⟨k, hk, rfl, hno, n0, rfl⟩ := hrel
      by_cases hlt : k < m.length
      · have hlt' : k < l.length := by have := HL.out; omega
        have i1 : (k : Int) < (m.length : Int) := by omega
        have i2 : (k : Int) < (l.length : Int) := by omega
        have i3 : (0 : Int) ≤ (k : Int) := by omega
        obtain ⟨b, o, c, u, e1, c1, r1⟩ := seq_cell HM.out hlt
        obtain ⟨b', o', c', u', e2, c2, r2⟩ := seq_cell HS.out hlt'
        injection e1 with e1 e3 e4
        injection e2 with e2 e5 e6
        subst e1 e2 r2
        have c1 : (w.drewN n0).cell? ⟨b, o + k, none⟩ = some u := c1
        have c2 : (w.drewN n0).cell? ⟨b', o' + k, none⟩ = some (.string l[k]) := c2
        have k1 := conv8 r1
        have hse := txt_eq (strB m[k]) l[k]
        clear e3 e4 e5 e6 r1
        by_cases he : strB m[k] = l[k]
        · rw [decide_eq_true he] at hse
          have HE := Lib.hid he
          clear he
          go_wp2
          go_quiet (fail)
          go_wp2
          refine ⟨⟨k + 1, by omega, rfl, fun j h h' hj => ?_, _, rfl⟩, by simp [intOf]; omega⟩
          by_cases e : j = k
          · subst e; exact HE.out
          · exact hno.out j h h' (by omega)
        · rw [decide_eq_false he] at hse
          have HE : Hid (decide (m.map strB = l) = false) := decide_eq_false fun h => he (by subst h; simp)
          clear he
          go_wp2
          go_quiet (fail)
          go_wp2
          go_ret
          exact ⟨by rw [HE.out]; rfl, n0 + nq, by rw [World.drewN_drewN]⟩
      · obtain rfl : k = m.length := by omega
        have HE : Hid (decide (m.map strB = l) = true) := decide_eq_true (List.ext_getElem (by rw [List.length_map]; exact HL.out) fun j h1 h2 => by
          rw [List.length_map] at h1
          rw [List.getElem_map]; exact hno.out j h1 h2 h1)
        go_wp2
        go_ret
        exact ⟨by rw [HE.out]; rfl, _, rfl⟩
  · have HE : Hid (decide (m.map strB = l) = false) := decide_eq_false fun h => hl (by rw [← h, List.length_map])
    have hl2 : (((m.length : Nat) : Int) != ((l.length : Nat) : Int)) = true := by rw [bne_iff_ne]; omega
    clear hl
    go_enter Try.func53, Try.ntmps53
    go_wp2
    go_ret
    exact ⟨by rw [HE.out]; rfl, 0, rfl⟩
end Go.Proofs.Ytojdodbedemkoaa
