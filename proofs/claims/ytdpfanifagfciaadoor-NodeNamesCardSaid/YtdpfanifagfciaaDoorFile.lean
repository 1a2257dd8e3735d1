/- Files of a tree, as lists; what package path tells of them, as plain functions. -/
import Derived.Test.YtdpfanifagfciaaDoorPathSpec
import Derived.Test.YtdpfanifagfciaaDoorPathMy
import Derived.Test.YtdpfanifagfciaaDoorRecB
namespace Go.Proofs.YtdpfanifagfciaaDoor
open Go.RowKit
open Op (bytesLess)
/-- A file, or a directory. -/
structure FileR where
  p : ByteArray
  d : Bool
  t : ByteArray
instance : Inhabited FileR := ⟨⟨ByteArray.empty, false, ByteArray.empty⟩⟩
def IsFile (us : List Value) (x : FileR) : Prop := us = [.string x.p, .bool x.d, .string x.t]
abbrev FilesAt (h : Array Obj) (v : Value) (l : List FileR) : Prop := RecAt 3 IsFile h v l
def FileR.P (x : FileR) : List UInt8 := x.p.data.toList
theorem cut_split : ∀ p, cutP p = splitP p
  | [] => rfl
  | c :: r => by
    have ih := cut_split r
    unfold cutP splitP
    by_cases h : c = 47
    · rw [if_pos h, if_pos h, ih]
    · rw [if_neg h, if_neg h, ih]
      cases hs : splitP r with
      | nil => exact absurd hs (splitP_ne r)
      | cons x t => rfl
theorem step_eq (s : ByteArray) : stepB s = stepP s.data.toList := by
  have hs : s.size = s.data.toList.length := (data_size s).symm
  unfold stepB stepP
  rw [toList_eq, hs]
  generalize s.data.toList = l
  by_cases h1 : l = []
  · subst h1; rfl
  have hl : 0 < l.length := List.length_pos_iff.2 h1
  have e1 : (l == []) = false := by rw [beq_eq_false_iff_ne]; exact h1
  have hodd : (!(l.any oddB)) = l.all fun c => decide (33 ≤ c.toNat ∧ c.toNat ≤ 126) := by
    rw [List.not_any_eq_all_not]
    congr 1
    funext c
    unfold oddB
    by_cases a : c.toNat ≤ 32
    · simp [a]; try omega
    · by_cases b : 126 < c.toNat
      · simp [b]; try omega
      · simp [a, b]; try omega
  rw [e1, ← hodd]
  by_cases h2 : 32 < l.length
  · rw [decide_eq_true h2, decide_eq_false (by omega)]; simp
  · rw [decide_eq_false h2, decide_eq_true (by omega)]
    cases (l == [46]) <;> cases (l == [46, 46]) <;> simp
theorem may_eq (p : ByteArray) : mayP p = mayPath p.data.toList := by
  unfold mayP mayPath
  rw [data_size, cut_split]
  congr 1
  rw [List.all_map]
  congr 1
  funext s
  show stepB (pB s) = stepP s
  rw [step_eq]
  rfl
/-- What is above: the text, and whether there is one. -/
def upT (p : ByteArray) : ByteArray := match upP p.data.toList with | some u => strB u | none => ByteArray.empty
def upIs (p : ByteArray) : Bool := (upP p.data.toList).isSome
theorem upT_some {p : ByteArray} {u : List UInt8} (h : upP p.data.toList = some u) : upT p = strB u ∧ upIs p = true := by unfold upT upIs; rw [h]; exact ⟨rfl, rfl⟩
theorem upT_none {p : ByteArray} (h : upP p.data.toList = none) : upT p = ByteArray.empty ∧ upIs p = false := by unfold upT upIs; rw [h]; exact ⟨rfl, rfl⟩
/-- A path's steps, as texts. -/
def stepsT (p : ByteArray) : List ByteArray := if p.size = 0 then [] else (splitP p.data.toList).map strB
def fAt (l : List FileR) (i : Nat) : FileR := l.getD i default
theorem fAt_eq {l : List FileR} {i : Nat} (h : i < l.length) : fAt l i = l[i] := by unfold fAt; rw [List.getD_eq_getElem?_getD, List.getElem?_eq_getElem h]; rfl
/-- Is there a directory at a path among some? -/
def dirIn (l : List FileR) (u : ByteArray) : Bool := l.any fun x => decide (x.p = u) && x.d
/-- May the k-th file stand where it stands? -/
def okF (l : List FileR) (k : Nat) : Bool :=
  mayPath (fAt l k).P && (decide (k = 0) || bytesLess (fAt l (k - 1)).P (fAt l k).P) && (!upIs (fAt l k).p || dirIn (l.take k) (upT (fAt l k).p)) && !((fAt l k).d && decide ((fAt l k).t.size ≠ 0)) && decide ((fAt l k).t.size ≤ 16384)
def okTo (l : List FileR) (k : Nat) : Bool := (List.range k).all (okF l)
def treeF (l : List FileR) : Bool := decide (l.length ≤ 256) && okTo l l.length
def sizeF : List FileR → Nat
  | [] => 0
  | x :: l => x.t.size + sizeF l
theorem sizeF_snoc : ∀ (l : List FileR) (x : FileR), sizeF (l ++ [x]) = sizeF l + x.t.size
  | [], x => by simp [sizeF]
  | y :: l, x => by have := sizeF_snoc l x; simp only [List.cons_append, sizeF, this]; omega
def kidB (dir : ByteArray) (x : FileR) : Bool := decide (upT x.p = dir) && (upIs x.p == decide (dir.size ≠ 0))
def kidsF (l : List FileR) (dir : ByteArray) (k : Nat) : List Int := ((List.range k).filter fun i => kidB dir (fAt l i)).map Int.ofNat
theorem kidsF_succ (l : List FileR) (dir : ByteArray) (k : Nat) : kidsF l dir (k + 1) = if kidB dir (fAt l k) then kidsF l dir k ++ [(k : Int)] else kidsF l dir k := by
  unfold kidsF
  rw [List.range_succ, List.filter_append, List.map_append]
  by_cases h : kidB dir (fAt l k) = true
  · rw [if_pos h]; simp [h]
  · rw [if_neg h]; simp [h]
theorem kidsF_len (l : List FileR) (dir : ByteArray) (k : Nat) : (kidsF l dir k).length ≤ k := by
  unfold kidsF
  rw [List.length_map]
  have := List.length_filter_le (fun i => kidB dir (fAt l i)) (List.range k)
  rwa [List.length_range] at this
theorem okTo_succ (l : List FileR) (k : Nat) : okTo l (k + 1) = (okTo l k && okF l k) := by
  unfold okTo; rw [List.range_succ, List.all_append]; simp
theorem okTo_iff {l : List FileR} {k : Nat} : okTo l k = true ↔ ∀ i, i < k → okF l i = true := by
  unfold okTo; simp [List.all_eq_true]
theorem okTo_false {l : List FileR} {k : Nat} (hk : k < l.length) (h : okF l k = false) : treeF l = false := by
  unfold treeF
  rw [Bool.and_eq_false_iff]
  right
  cases e : okTo l l.length with
  | false => rfl
  | true => rw [okTo_iff.1 e k hk] at h; cases h
/-- What stands at a path among the first k: 0 nothing, 1 a file, 2 a directory. -/
def kindF (l : List FileR) : Nat → ByteArray → Int
  | 0, _ => 0
  | k + 1, s => if s = (fAt l k).p then (if (fAt l k).d then 2 else 1) else kindF l k s
theorem take_fAt {l : List FileR} {k : Nat} (h : k < l.length) : l.take (k + 1) = l.take k ++ [fAt l k] := by
  rw [fAt_eq h, List.take_succ_eq_append_getElem h]
theorem dirIn_snoc (l : List FileR) (x : FileR) (u : ByteArray) : dirIn (l ++ [x]) u = (dirIn l u || (decide (x.p = u) && x.d)) := by
  unfold dirIn; rw [List.any_append]; simp
theorem dirIn_iff {l : List FileR} {u : ByteArray} : dirIn l u = true ↔ ∃ x ∈ l, x.p = u ∧ x.d = true := by
  unfold dirIn
  rw [List.any_eq_true]
  constructor
  · rintro ⟨x, h1, h2⟩
    rw [Bool.and_eq_true, decide_eq_true_eq] at h2
    exact ⟨x, h1, h2.1, h2.2⟩
  · rintro ⟨x, h1, h2, h3⟩
    exact ⟨x, h1, by rw [Bool.and_eq_true, decide_eq_true_eq]; exact ⟨h2, h3⟩⟩
theorem p_inj {x y : ByteArray} (h : x.data.toList = y.data.toList) : x = y := by
  cases x; cases y; simp only [Array.toList_inj] at h; rw [h]
/-- As far as all is well the paths rise. -/
theorem rise {l : List FileR} : ∀ {k : Nat}, okTo l k = true → ∀ i j, i < j → j < k → bytesLess (fAt l i).P (fAt l j).P = true
  | 0, _, _, _, _, h => absurd h (by omega)
  | k + 1, h, i, j, hij, hj => by
    rw [okTo_succ, Bool.and_eq_true] at h
    by_cases e : j = k
    · subst e
      have h1 := h.2
      unfold okF at h1
      simp only [Bool.and_eq_true] at h1
      have h2 := h1.1.1.1.2
      have h3 : decide (j = 0) = false := decide_eq_false (by omega)
      rw [h3, Bool.false_or] at h2
      by_cases e2 : i = j - 1
      · rw [e2]; exact h2
      · exact bless_trans (rise h.1 i (j - 1) (by omega) (by omega)) h2
    · exact rise h.1 i j hij (by omega)
theorem kind_dir {l : List FileR} : ∀ {k : Nat}, k ≤ l.length → okTo l k = true → ∀ u, decide (kindF l k u = 2) = dirIn (l.take k) u
  | 0, _, _, u => by simp [kindF, dirIn]
  | k + 1, hk, h, u => by
    have h' := h
    rw [okTo_succ, Bool.and_eq_true] at h
    have ih := kind_dir (k := k) (by omega) h.1 u
    rw [take_fAt (by omega), dirIn_snoc]
    unfold kindF
    by_cases e : u = (fAt l k).p
    · rw [if_pos e]
      have hno : dirIn (l.take k) u = false := by
        cases hd : dirIn (l.take k) u with
        | false => rfl
        | true =>
          obtain ⟨x, hx, h1, _⟩ := dirIn_iff.1 hd
          obtain ⟨i, hi, rfl⟩ := List.getElem_of_mem hx
          rw [List.length_take] at hi
          rw [List.getElem_take] at h1
          have h2 := rise h' i k (by omega) (by omega)
          unfold FileR.P at h2
          rw [fAt_eq (l := l) (i := i) (by omega), h1, e, bless_irrefl] at h2
          cases h2
      rw [hno, decide_eq_true e.symm, Bool.true_and, Bool.false_or]
      cases (fAt l k).d <;> simp
    · rw [if_neg e, ih, decide_eq_false (p := (fAt l k).p = u) (fun x => e x.symm), Bool.false_and, Bool.or_false]
end Go.Proofs.YtdpfanifagfciaaDoor
