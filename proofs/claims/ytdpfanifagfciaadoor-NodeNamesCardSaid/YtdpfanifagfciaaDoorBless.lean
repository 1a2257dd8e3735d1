/- The order of texts, byte by byte. No program in sight. -/
import Derived.Test.YtdpfanifagfciaaDoorText
namespace Go.Proofs.YtdpfanifagfciaaDoor
open Go.RowKit
open Op (bytesLess)
theorem bless_nil (x : List UInt8) : bytesLess x [] = false := by cases x <;> rfl
theorem bless_cons (a b : UInt8) (x y : List UInt8) : bytesLess (a :: x) (b :: y) = (decide (a < b) || (a == b && bytesLess x y)) := rfl
theorem bless_cons_iff {a b : UInt8} {x y : List UInt8} : bytesLess (a :: x) (b :: y) = true ↔ a.toNat < b.toNat ∨ (a = b ∧ bytesLess x y = true) := by
  rw [bless_cons, Bool.or_eq_true, Bool.and_eq_true, decide_eq_true_eq, beq_iff_eq, UInt8.lt_iff_toNat_lt]
theorem bless_irrefl : ∀ x : List UInt8, bytesLess x x = false
  | [] => rfl
  | a :: x => by
    cases h : bytesLess (a :: x) (a :: x) with
    | false => rfl
    | true =>
      rw [bless_cons_iff, bless_irrefl x] at h
      rcases h with h | h
      · omega
      · exact absurd h.2 (by simp)
theorem bless_trans : ∀ {x y z : List UInt8}, bytesLess x y = true → bytesLess y z = true → bytesLess x z = true
  | _, y, [], _, h => by rw [bless_nil] at h; cases h
  | x, [], _ :: _, h, _ => by rw [bless_nil] at h; cases h
  | [], _ :: _, _ :: _, _, _ => rfl
  | a :: x, b :: y, c :: z, h1, h2 => by
    rw [bless_cons_iff] at h1 h2 ⊢
    rcases h1 with h1 | ⟨rfl, h1⟩
    · rcases h2 with h2 | ⟨rfl, h2⟩
      · exact .inl (by omega)
      · exact .inl h1
    · rcases h2 with h2 | ⟨rfl, h2⟩
      · exact .inl h2
      · exact .inr ⟨rfl, bless_trans h1 h2⟩
theorem bless_tri : ∀ (x y : List UInt8), x = y ∨ bytesLess x y = true ∨ bytesLess y x = true
  | [], [] => .inl rfl
  | [], _ :: _ => .inr (.inl rfl)
  | _ :: _, [] => .inr (.inr rfl)
  | a :: x, b :: y => by
    rw [bless_cons_iff, bless_cons_iff]
    rcases Nat.lt_trichotomy a.toNat b.toNat with h | h | h
    · exact .inr (.inl (.inl h))
    · have e : a = b := UInt8.toNat_inj.1 h
      subst e
      rcases bless_tri x y with h | h | h
      · subst h; exact .inl rfl
      · exact .inr (.inl (.inr ⟨rfl, h⟩))
      · exact .inr (.inr (.inr ⟨rfl, h⟩))
    · exact .inr (.inr (.inl h))
theorem bless_asymm {x y : List UInt8} (h : bytesLess x y = true) : bytesLess y x = false := by
  cases k : bytesLess y x with
  | false => rfl
  | true => have := bless_trans h k; rw [bless_irrefl] at this; cases this
theorem bless_ne {x y : List UInt8} (h : bytesLess x y = true) : x ≠ y := fun e => by subst e; rw [bless_irrefl] at h; cases h
theorem bless_longer : ∀ (x : List UInt8) {y : List UInt8}, y ≠ [] → bytesLess x (x ++ y) = true
  | [], [], h => absurd rfl h
  | [], _ :: _, _ => rfl
  | a :: x, y, h => by rw [List.cons_append, bless_cons_iff]; exact .inr ⟨rfl, bless_longer x h⟩
/-- One text is less than another. -/
def lessT (x y : ByteArray) : Bool := bytesLess x.toList y.toList
theorem lessT_irrefl (x : ByteArray) : lessT x x = false := bless_irrefl _
theorem lessT_trans {x y z : ByteArray} (h : lessT x y = true) (k : lessT y z = true) : lessT x z = true := bless_trans h k
theorem toList_inj {x y : ByteArray} (h : x.toList = y.toList) : x = y := by
  rw [toList_eq, toList_eq] at h
  cases x; cases y; simp only [Array.toList_inj] at h; rw [h]
theorem lessT_tri (x y : ByteArray) : x = y ∨ lessT x y = true ∨ lessT y x = true := by
  rcases bless_tri x.toList y.toList with h | h | h
  · exact .inl (toList_inj h)
  · exact .inr (.inl h)
  · exact .inr (.inr h)
theorem lessT_ne {x y : ByteArray} (h : lessT x y = true) : x ≠ y := fun e => by subst e; rw [lessT_irrefl] at h; cases h
theorem lessT_asymm {x y : ByteArray} (h : lessT x y = true) : lessT y x = false := bless_asymm h
/-- 'a <= b' as the walk has it. -/
theorem leT_is (a b : ByteArray) : (bytesLess a.toList b.toList || a.toList == b.toList) = !lessT b a := by
  rcases lessT_tri a b with h | h | h
  · subst h; rw [lessT_irrefl]; simp
  · rw [lessT_asymm h]
    unfold lessT at h
    rw [h]; rfl
  · rw [h]
    have h2 := lessT_asymm h
    unfold lessT at h2
    rw [h2]
    have : ¬ a = b := fun e => lessT_ne h e.symm
    rw [show (a.toList == b.toList) = decide (a = b) from txt_eq a b, decide_eq_false this]; rfl
end Go.Proofs.YtdpfanifagfciaaDoor
