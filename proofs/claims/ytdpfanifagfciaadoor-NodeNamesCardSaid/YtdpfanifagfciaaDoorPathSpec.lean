/- What package path tells of texts, as plain functions on bytes. No program in sight. -/
import Derived.Test.YtdpfanifagfciaaDoorBless
namespace Go.Proofs.YtdpfanifagfciaaDoor
open Go.RowKit
/-- A path's steps. -/
def splitP : List UInt8 → List (List UInt8)
  | [] => [[]]
  | c :: r => if c = 47 then [] :: splitP r else match splitP r with | [] => [[c]] | h :: t => (c :: h) :: t
/-- What is ahead of the last slash. -/
def upP : List UInt8 → Option (List UInt8)
  | [] => none
  | c :: r => match upP r with | some u => some (c :: u) | none => if c = 47 then some [] else none
/-- May it be a step? -/
def stepP (s : List UInt8) : Bool := decide (1 ≤ s.length ∧ s.length ≤ 32) && !(s == [46]) && !(s == [46, 46]) && s.all fun c => decide (33 ≤ c.toNat ∧ c.toNat ≤ 126)
/-- Is it a path? -/
def mayPath (p : List UInt8) : Bool := decide (p.length ≤ 96) && (splitP p).all stepP
/-- Steps, put together. -/
def joinS : List (List UInt8) → List UInt8
  | [] => []
  | [s] => s
  | s :: t => s ++ 47 :: joinS t
theorem splitP_ne : ∀ p, splitP p ≠ []
  | [] => by simp [splitP]
  | c :: r => by
    unfold splitP
    split
    · simp
    · split <;> simp
theorem splitP_cons {c : UInt8} (h : c ≠ 47) (r : List UInt8) : ∃ x t, splitP r = x :: t ∧ splitP (c :: r) = (c :: x) :: t := by
  have hn := splitP_ne r
  cases hs : splitP r with
  | nil => exact absurd hs hn
  | cons x t => exact ⟨x, t, rfl, by rw [splitP, if_neg h, hs]⟩
theorem splitP_slash (r : List UInt8) : splitP (47 :: r) = [] :: splitP r := by rw [splitP, if_pos rfl]
theorem splitP_none : ∀ {s : List UInt8}, 47 ∉ s → splitP s = [s]
  | [], _ => rfl
  | c :: r, h => by
    have h1 : c ≠ 47 := fun e => h (by rw [e]; exact List.mem_cons_self ..)
    have h2 := splitP_none (s := r) fun e => h (List.mem_cons_of_mem _ e)
    rw [splitP, if_neg h1, h2]
theorem splitP_cat : ∀ (p s : List UInt8), splitP (p ++ 47 :: s) = splitP p ++ splitP s
  | [], s => by rw [List.nil_append, splitP_slash]; rfl
  | c :: r, s => by
    have ih := splitP_cat r s
    rw [List.cons_append]
    by_cases h : c = 47
    · subst h; rw [splitP_slash, splitP_slash, ih]; rfl
    · have hn := splitP_ne r
      rw [splitP, if_neg h, ih]
      conv => rhs; rw [splitP, if_neg h]
      cases hs : splitP r with
      | nil => exact absurd hs hn
      | cons x t => rfl
theorem upP_none : ∀ {p : List UInt8}, upP p = none ↔ 47 ∉ p
  | [] => by simp [upP]
  | c :: r => by
    unfold upP
    cases hu : upP r with
    | some u =>
      have : ¬ 47 ∉ r := fun h => by rw [upP_none.2 h] at hu; cases hu
      simp only [reduceCtorEq, false_iff]
      intro h
      exact this fun e => h (List.mem_cons_of_mem _ e)
    | none =>
      have h1 := upP_none.1 hu
      by_cases h : c = 47
      · subst h; simp
      · simp only [if_neg h, true_iff]
        intro e
        rcases List.mem_cons.1 e with e | e
        · exact h e.symm
        · exact h1 e
theorem upP_some : ∀ {p u : List UInt8}, upP p = some u → ∃ s, p = u ++ 47 :: s ∧ 47 ∉ s
  | [], u, h => by cases h
  | c :: r, u, h => by
    unfold upP at h
    cases hu : upP r with
    | some v =>
      rw [hu] at h
      injection h with h
      subst h
      obtain ⟨s, e, hs⟩ := upP_some hu
      exact ⟨s, by rw [e]; rfl, hs⟩
    | none =>
      rw [hu] at h
      by_cases hc : c = 47
      · subst hc
        simp only [if_true, Option.some.injEq] at h
        subst h
        exact ⟨r, rfl, upP_none.1 hu⟩
      · simp only [if_neg hc, reduceCtorEq] at h
theorem upP_cat : ∀ (u : List UInt8) {s : List UInt8}, 47 ∉ s → upP (u ++ 47 :: s) = some u
  | [], s, h => by
    rw [List.nil_append, upP, upP_none.2 h]; rfl
  | c :: u, s, h => by rw [List.cons_append, upP, upP_cat u h]
/-- A text is its steps, put together. -/
theorem joinS_cons (s : List UInt8) {t : List (List UInt8)} (h : t ≠ []) : joinS (s :: t) = s ++ 47 :: joinS t := by
  cases t with
  | nil => exact absurd rfl h
  | cons x t => rfl
theorem join_split : ∀ p, joinS (splitP p) = p
  | [] => rfl
  | c :: r => by
    have ih := join_split r
    have hn := splitP_ne r
    by_cases h : c = 47
    · subst h; rw [splitP_slash, joinS_cons _ hn, ih]; rfl
    · obtain ⟨x, t, hs, e⟩ := splitP_cons h r
      rw [e]
      rw [hs] at ih
      cases t with
      | nil => simp only [joinS] at ih ⊢; rw [ih]
      | cons y t => rw [joinS_cons _ (by simp)] at ih ⊢; rw [← ih]; rfl
theorem split_len : ∀ p : List UInt8, (splitP p).length ≤ p.length + 1
  | [] => by simp [splitP]
  | c :: r => by
    have ih := split_len r
    by_cases h : c = 47
    · subst h; rw [splitP_slash]; simp; omega
    · obtain ⟨x, t, hs, e⟩ := splitP_cons h r
      rw [hs] at ih
      rw [e]; simp at ih ⊢; omega
theorem split_none : ∀ (p : List UInt8) (s : List UInt8), s ∈ splitP p → 47 ∉ s
  | [], s, h => by simp [splitP] at h; subst h; simp
  | c :: r, s, h => by
    by_cases hc : c = 47
    · subst hc
      rw [splitP_slash] at h
      rcases List.mem_cons.1 h with h | h
      · subst h; simp
      · exact split_none r s h
    · obtain ⟨x, t, hs, e⟩ := splitP_cons hc r
      rw [e] at h
      rcases List.mem_cons.1 h with h | h
      · subst h
        intro e
        rcases List.mem_cons.1 e with e | e
        · exact hc e.symm
        · exact split_none r x (by rw [hs]; exact List.mem_cons_self ..) e
      · exact split_none r s (by rw [hs]; exact List.mem_cons_of_mem _ h)
theorem stepP_ne {s : List UInt8} (h : stepP s = true) : s ≠ [] := fun e => by subst e; simp [stepP] at h
/-- What is no path: one that has a step that is none. -/
theorem mayPath_iff {p : List UInt8} : mayPath p = true ↔ p.length ≤ 96 ∧ ∀ s ∈ splitP p, stepP s = true := by
  unfold mayPath; rw [Bool.and_eq_true, decide_eq_true_eq, List.all_eq_true]
theorem mayPath_ne {p : List UInt8} (h : mayPath p = true) : p ≠ [] := fun e => by
  subst e
  exact stepP_ne ((mayPath_iff.1 h).2 [] (by simp [splitP])) rfl
/-- Of a path what is above it is a path; its steps are the path's without the last one. -/
theorem mayPath_up {p u : List UInt8} (h : mayPath p = true) (hu : upP p = some u) : mayPath u = true := by
  obtain ⟨s, rfl, hs⟩ := upP_some hu
  rw [mayPath_iff] at h ⊢
  rw [List.length_append] at h
  refine ⟨by omega, fun x hx => h.2 x ?_⟩
  rw [splitP_cat]; exact List.mem_append_left _ hx
theorem split_up {p u : List UInt8} (hu : upP p = some u) : ∃ s, p = u ++ 47 :: s ∧ 47 ∉ s ∧ splitP p = splitP u ++ [s] := by
  obtain ⟨s, rfl, hs⟩ := upP_some hu
  exact ⟨s, rfl, hs, by rw [splitP_cat, splitP_none hs]⟩
theorem up_many {p : List UInt8} : (upP p).isSome = decide (1 < (splitP p).length) := by
  cases hu : upP p with
  | none => rw [splitP_none (upP_none.1 hu)]; rfl
  | some u =>
    obtain ⟨s, rfl, hs, e⟩ := split_up hu
    rw [e, List.length_append]
    have := splitP_ne u
    have : 0 < (splitP u).length := List.length_pos_iff.2 this
    rw [decide_eq_true (by simp; omega)]; rfl
/-- A path with a step behind is one, if it is not too long. -/
theorem mayPath_more {p s : List UInt8} (h : mayPath p = true) (k : mayPath s = true) : mayPath (p ++ 47 :: s) = decide (p.length + 1 + s.length ≤ 96) := by
  rw [Bool.eq_iff_iff, mayPath_iff, decide_eq_true_eq, List.length_append, List.length_cons]
  constructor
  · rintro ⟨h2, _⟩; omega
  · intro h2
    refine ⟨by omega, fun x hx => ?_⟩
    rw [splitP_cat] at hx
    rcases List.mem_append.1 hx with hx | hx
    · exact (mayPath_iff.1 h).2 x hx
    · exact (mayPath_iff.1 k).2 x hx
theorem up_less {p u : List UInt8} (hu : upP p = some u) : Op.bytesLess u p = true := by
  obtain ⟨s, rfl, _⟩ := upP_some hu
  exact bless_longer u (by simp)
end Go.Proofs.YtdpfanifagfciaaDoor
