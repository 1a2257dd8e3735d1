/- A path's steps: a text cut at each '/'. -/
import Derived.Lib.Bytealg
namespace Go.Proofs.YtdpfanifagfciaaDoor
/-- The pieces between the slashes. -/
def cutP : List UInt8 → List (List UInt8)
  | [] => [[]]
  | x :: r => if x = 47 then [] :: cutP r else (x :: (cutP r).headD []) :: (cutP r).tail
theorem cutP_ne : ∀ l, cutP l ≠ []
  | [] => by simp [cutP]
  | x :: r => by unfold cutP; split <;> simp
theorem cutP_head : ∀ l, (cutP l).headD [] :: (cutP l).tail = cutP l := fun l => by
  cases h : cutP l with
  | nil => exact absurd h (cutP_ne l)
  | cons p ps => rfl
theorem idx_cases : ∀ l : List UInt8, Lib.indexByte l 47 = -1 ∨ ∃ i : Nat, Lib.indexByte l 47 = (i : Int)
  | [] => .inl rfl
  | x :: r => by
    unfold Lib.indexByte
    by_cases hx : (x == 47) = true
    · rw [if_pos hx]; exact .inr ⟨0, rfl⟩
    · rw [if_neg hx]
      rcases idx_cases r with h | ⟨i, h⟩
      · rw [h]; exact .inl rfl
      · refine .inr ⟨i + 1, ?_⟩
        rw [h, if_neg (by simp)]; rfl
theorem cutP_none : ∀ {l : List UInt8}, Lib.indexByte l 47 = -1 → cutP l = [l]
  | [], _ => rfl
  | x :: r, h => by
    unfold Lib.indexByte at h
    by_cases hx : (x == 47) = true
    · rw [if_pos hx] at h; exact absurd h (by decide)
    · rw [if_neg hx] at h
      have hr : Lib.indexByte r 47 = -1 := by
        rcases idx_cases r with h' | ⟨i, h'⟩
        · exact h'
        · rw [h', if_neg (by simp)] at h; omega
      have hx' : ¬ x = 47 := fun e => hx (by simp [e])
      unfold cutP
      rw [if_neg hx', cutP_none hr]; rfl
theorem cutP_some : ∀ {l : List UInt8} {i : Nat}, Lib.indexByte l 47 = (i : Int) → i < l.length ∧ cutP l = l.take i :: cutP (l.drop (i + 1))
  | [], i, h => by unfold Lib.indexByte at h; omega
  | x :: r, i, h => by
    unfold Lib.indexByte at h
    by_cases hx : (x == 47) = true
    · rw [if_pos hx] at h
      obtain rfl : i = 0 := by omega
      have hx' : x = 47 := by simpa using hx
      refine ⟨by simp, ?_⟩
      conv => lhs; unfold cutP
      rw [if_pos hx']; rfl
    · rw [if_neg hx] at h
      have hx' : ¬ x = 47 := fun e => hx (by simp [e])
      rcases idx_cases r with h' | ⟨k, h'⟩
      · rw [h'] at h; simp at h
      · rw [h', if_neg (by simp)] at h
        obtain rfl : i = k + 1 := by omega
        obtain ⟨h1, h2⟩ := cutP_some h'
        refine ⟨by simp; omega, ?_⟩
        conv => lhs; unfold cutP
        rw [if_neg hx', h2]; rfl
theorem cutP_len : ∀ l, (cutP l).length ≤ l.length + 1
  | [] => by simp [cutP]
  | x :: r => by
    have := cutP_len r
    unfold cutP
    split
    · simp; omega
    · simp; omega
end Go.Proofs.YtdpfanifagfciaaDoor
