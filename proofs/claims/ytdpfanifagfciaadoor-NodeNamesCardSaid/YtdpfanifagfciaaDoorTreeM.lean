/- Plain laws of trees and of paths. No program in sight. -/
import Derived.Test.YtdpfanifagfciaaDoorFile
namespace Go.Proofs.YtdpfanifagfciaaDoor
open Go.RowKit
open Op (bytesLess)
def goodF (x : FileR) : Bool := mayPath x.P && !(x.d && decide (x.t.size ≠ 0)) && decide (x.t.size ≤ 16384)
structure TreeQ (l : List FileR) : Prop where
  len : l.length ≤ 256
  rise : l.Pairwise fun x y => bytesLess x.P y.P = true
  good : ∀ x ∈ l, goodF x = true
  up : ∀ x ∈ l, upIs x.p = true → dirIn l (upT x.p) = true
theorem okF_iff {l : List FileR} {k : Nat} : okF l k = true ↔ goodF (fAt l k) = true ∧ (k = 0 ∨ bytesLess (fAt l (k - 1)).P (fAt l k).P = true) ∧ (upIs (fAt l k).p = true → dirIn (l.take k) (upT (fAt l k).p) = true) := by
  unfold okF goodF
  generalize mayPath (fAt l k).P = a
  generalize bytesLess (fAt l (k - 1)).P (fAt l k).P = b
  generalize upIs (fAt l k).p = c
  generalize dirIn (l.take k) (upT (fAt l k).p) = d
  generalize ((fAt l k).d && decide ((fAt l k).t.size ≠ 0)) = e
  generalize decide ((fAt l k).t.size ≤ 16384) = f
  by_cases g : k = 0
  · rw [decide_eq_true g]
    cases a <;> cases b <;> cases c <;> cases d <;> cases e <;> cases f <;> simp [g]
  · rw [decide_eq_false g]
    cases a <;> cases b <;> cases c <;> cases d <;> cases e <;> cases f <;> simp [g]
theorem dirIn_mono {l m : List FileR} {u : ByteArray} (h : dirIn l u = true) (hs : ∀ x ∈ l, x ∈ m) : dirIn m u = true := by
  obtain ⟨x, h1, h2⟩ := dirIn_iff.1 h
  exact dirIn_iff.2 ⟨x, hs x h1, h2⟩
theorem up_lessT {p : ByteArray} (h : upIs p = true) : bytesLess (upT p).data.toList p.data.toList = true := by
  cases hu : upP p.data.toList with
  | none => rw [(upT_none hu).2] at h; cases h
  | some u => rw [(upT_some hu).1]; exact up_less hu
theorem mem_fAt {l : List FileR} {x : FileR} (h : x ∈ l) : ∃ i, i < l.length ∧ fAt l i = x := by
  obtain ⟨i, hi, e⟩ := List.getElem_of_mem h
  exact ⟨i, hi, by rw [fAt_eq hi, e]⟩
theorem fAt_mem {l : List FileR} {i : Nat} (h : i < l.length) : fAt l i ∈ l := by rw [fAt_eq h]; exact List.getElem_mem h
theorem tree_of {l : List FileR} (h : treeF l = true) : TreeQ l := by
  unfold treeF at h
  rw [Bool.and_eq_true, decide_eq_true_eq] at h
  have h2 := okTo_iff.1 h.2
  refine ⟨h.1, ?_, fun x hx => ?_, fun x hx hu => ?_⟩
  · rw [List.pairwise_iff_getElem]
    intro i j hi hj hij
    rw [← fAt_eq hi, ← fAt_eq hj]
    exact rise h.2 i j hij hj
  · obtain ⟨i, hi, rfl⟩ := mem_fAt hx
    exact (okF_iff.1 (h2 i hi)).1
  · obtain ⟨i, hi, rfl⟩ := mem_fAt hx
    exact dirIn_mono ((okF_iff.1 (h2 i hi)).2.2 hu) fun y hy => List.mem_of_mem_take hy
theorem TreeQ.lt {l : List FileR} (h : TreeQ l) {i j : Nat} (hij : i < j) (hj : j < l.length) : bytesLess (fAt l i).P (fAt l j).P = true := by
  rw [fAt_eq (l := l) (i := i) (by omega), fAt_eq hj]
  exact List.pairwise_iff_getElem.1 h.rise i j (by omega) hj hij
theorem TreeQ.ahead {l : List FileR} (h : TreeQ l) {i : Nat} (hi : i < l.length) (hu : upIs (fAt l i).p = true) : dirIn (l.take i) (upT (fAt l i).p) = true := by
  obtain ⟨y, hy, h1, h2⟩ := dirIn_iff.1 (h.up _ (fAt_mem hi) hu)
  obtain ⟨j, hj, rfl⟩ := mem_fAt hy
  refine dirIn_iff.2 ⟨fAt l j, ?_, h1, h2⟩
  have hlt := up_lessT hu
  rw [← h1] at hlt
  have hji : j < i := by
    rcases Nat.lt_trichotomy j i with e | e | e
    · exact e
    · subst e; rw [bless_irrefl] at hlt; cases hlt
    · have h3 : bytesLess (fAt l i).p.data.toList (fAt l j).p.data.toList = true := h.lt e hj
      rw [bless_asymm h3] at hlt; cases hlt
  rw [fAt_eq hj, List.mem_take_iff_getElem]
  exact ⟨j, by omega, rfl⟩
theorem TreeQ.tree {l : List FileR} (h : TreeQ l) : treeF l = true := by
  unfold treeF
  rw [Bool.and_eq_true, decide_eq_true_eq]
  refine ⟨h.len, okTo_iff.2 fun i hi => okF_iff.2 ⟨h.good _ (fAt_mem hi), ?_, fun hu => h.ahead hi hu⟩⟩
  by_cases e : i = 0
  · exact .inl e
  · exact .inr (h.lt (by omega) hi)
theorem tree_Q {l : List FileR} : treeF l = true ↔ TreeQ l := ⟨tree_of, TreeQ.tree⟩
/-- The document's tree: the path above stands anywhere. -/
def okR (l : List FileR) (k : Nat) : Bool :=
  (mayPath (fAt l k).P && (decide (k = 0) || bytesLess (fAt l (k - 1)).P (fAt l k).P) && decide ((fAt l k).t.size ≤ 16384) && !((fAt l k).d && decide ((fAt l k).t.size ≠ 0))) && (!upIs (fAt l k).p || dirIn l (upT (fAt l k).p))
def treeR (l : List FileR) : Bool := decide (l.length ≤ 256) && (List.range l.length).all (okR l)
theorem okR_iff {l : List FileR} {k : Nat} : okR l k = true ↔ goodF (fAt l k) = true ∧ (k = 0 ∨ bytesLess (fAt l (k - 1)).P (fAt l k).P = true) ∧ (upIs (fAt l k).p = true → dirIn l (upT (fAt l k).p) = true) := by
  unfold okR goodF
  generalize mayPath (fAt l k).P = a
  generalize bytesLess (fAt l (k - 1)).P (fAt l k).P = b
  generalize upIs (fAt l k).p = c
  generalize dirIn l (upT (fAt l k).p) = d
  generalize ((fAt l k).d && decide ((fAt l k).t.size ≠ 0)) = e
  generalize decide ((fAt l k).t.size ≤ 16384) = f
  by_cases g : k = 0
  · rw [decide_eq_true g]
    cases a <;> cases b <;> cases c <;> cases d <;> cases e <;> cases f <;> simp [g]
  · rw [decide_eq_false g]
    cases a <;> cases b <;> cases c <;> cases d <;> cases e <;> cases f <;> simp [g]
theorem less_all {l : List FileR} (h : ∀ i, i < l.length → i = 0 ∨ bytesLess (fAt l (i - 1)).P (fAt l i).P = true) : ∀ j, j < l.length → ∀ i, i < j → bytesLess (fAt l i).P (fAt l j).P = true
  | 0, _, _, hi => absurd hi (by omega)
  | j + 1, hj, i, hi => by
    have h1 := (h (j + 1) hj).resolve_left (by omega)
    rw [Nat.add_sub_cancel] at h1
    by_cases e : i = j
    · subst e; exact h1
    · exact bless_trans (less_all h j (by omega) i (by omega)) h1
theorem tree_same (l : List FileR) : treeR l = treeF l := by
  rw [Bool.eq_iff_iff, tree_Q]
  unfold treeR
  rw [Bool.and_eq_true, decide_eq_true_eq, List.all_eq_true]
  constructor
  · rintro ⟨h1, h2⟩
    have h3 : ∀ i, i < l.length → _ := fun i hi => okR_iff.1 (h2 i (List.mem_range.2 hi))
    refine ⟨h1, ?_, fun x hx => ?_, fun x hx hu => ?_⟩
    · rw [List.pairwise_iff_getElem]
      intro i j hi hj hij
      rw [← fAt_eq hi, ← fAt_eq hj]
      exact less_all (fun i hi => (h3 i hi).2.1) j hj i hij
    · obtain ⟨i, hi, rfl⟩ := mem_fAt hx
      exact (h3 i hi).1
    · obtain ⟨i, hi, rfl⟩ := mem_fAt hx
      exact (h3 i hi).2.2 hu
  · intro h
    refine ⟨h.len, fun i hi => ?_⟩
    rw [List.mem_range] at hi
    refine okR_iff.2 ⟨h.good _ (fAt_mem hi), ?_, fun hu => h.up _ (fAt_mem hi) hu⟩
    by_cases e : i = 0
    · exact .inl e
    · exact .inr (h.lt (by omega) hi)
theorem TreeQ.may {l : List FileR} (h : TreeQ l) {x : FileR} (hx : x ∈ l) : mayPath x.P = true := by
  have := h.good x hx
  unfold goodF at this
  simp only [Bool.and_eq_true] at this
  exact this.1.1
theorem TreeQ.eq {l : List FileR} (h : TreeQ l) {x y : FileR} (hx : x ∈ l) (hy : y ∈ l) (e : x.p = y.p) : x = y := by
  obtain ⟨i, hi, rfl⟩ := mem_fAt hx
  obtain ⟨j, hj, rfl⟩ := mem_fAt hy
  rcases Nat.lt_trichotomy i j with c | c | c
  · have h1 := h.lt c hj
    unfold FileR.P at h1
    rw [e, bless_irrefl] at h1; cases h1
  · rw [c]
  · have h1 := h.lt c hi
    unfold FileR.P at h1
    rw [e, bless_irrefl] at h1; cases h1
/-- A tree without the last one is a tree. -/
theorem tree_front {l : List FileR} (h : TreeQ l) (m : Nat) : TreeQ (l.take m) := by
  refine ⟨Nat.le_trans (by rw [List.length_take]; omega) h.len, h.rise.sublist (List.take_sublist m l), fun x hx => h.good x (List.mem_of_mem_take hx), fun x hx hu => ?_⟩
  obtain ⟨i, hi, rfl⟩ := List.getElem_of_mem hx
  rw [List.length_take] at hi
  rw [List.getElem_take] at hu ⊢
  rw [← fAt_eq (l := l) (i := i) (by omega)] at hu ⊢
  refine dirIn_mono (h.ahead (by omega) hu) fun y hy => ?_
  rw [List.mem_take_iff_getElem] at hy ⊢
  obtain ⟨j, hj, rfl⟩ := hy
  exact ⟨j, by omega, rfl⟩
/-- Without one of them: a tree just if none stands in it. -/
def inF (l : List FileR) (k : Nat) : Bool := l.any fun x => upIs x.p && decide (upT x.p = (fAt l k).p)
theorem tree_less {l : List FileR} (h : TreeQ l) {k : Nat} (hk : k < l.length) : treeF (l.take k ++ l.drop (k + 1)) = !inF l k := by
  have e : l.take k ++ l.drop (k + 1) = l.eraseIdx k := (List.eraseIdx_eq_take_drop_succ l k).symm
  rw [e]
  have hsub := List.eraseIdx_sublist l k
  have hne : ∀ x ∈ l.eraseIdx k, x.p ≠ (fAt l k).p := by
    intro x hx
    rw [List.mem_eraseIdx_iff_getElem] at hx
    obtain ⟨i, hi, hik, rfl⟩ := hx
    intro e2
    rw [← fAt_eq hi] at e2
    rcases Nat.lt_or_ge i k with c | c
    · have h1 := h.lt c hk
      unfold FileR.P at h1
      rw [e2, bless_irrefl] at h1; cases h1
    · have h1 := h.lt (i := k) (j := i) (by omega) hi
      unfold FileR.P at h1
      rw [e2, bless_irrefl] at h1; cases h1
  have hother : ∀ x ∈ l, x.p ≠ (fAt l k).p → x ∈ l.eraseIdx k := by
    intro x hx hxe
    obtain ⟨i, hi, rfl⟩ := List.getElem_of_mem hx
    rw [List.mem_eraseIdx_iff_getElem]
    refine ⟨i, hi, fun e2 => hxe ?_, rfl⟩
    subst e2
    rw [fAt_eq hi]
  cases hin : inF l k with
  | true =>
    unfold inF at hin
    obtain ⟨x, hx, hx2⟩ := List.any_eq_true.1 hin
    rw [Bool.and_eq_true, decide_eq_true_eq] at hx2
    cases ht : treeF (l.eraseIdx k) with
    | false => rfl
    | true =>
      have hq := tree_of ht
      have hxne : x.p ≠ (fAt l k).p := fun e2 => by
        have := up_lessT hx2.1
        rw [hx2.2, e2, bless_irrefl] at this; cases this
      obtain ⟨y, hy, h1, _⟩ := dirIn_iff.1 (hq.up x (hother x hx hxne) hx2.1)
      exact absurd (h1.trans hx2.2) (hne y hy)
  | false =>
    refine TreeQ.tree ⟨Nat.le_trans hsub.length_le h.len, h.rise.sublist hsub, fun x hx => h.good x (hsub.subset hx), fun x hx hu => ?_⟩
    obtain ⟨y, hy, h1, h2⟩ := dirIn_iff.1 (h.up x (hsub.subset hx) hu)
    refine dirIn_iff.2 ⟨y, hother y hy fun e2 => ?_, h1, h2⟩
    unfold inF at hin
    have := List.any_eq_false.1 hin x (hsub.subset hx)
    rw [hu, ← e2, h1] at this
    simp at this
/-- The directories that kids are asked of. -/
def dirsF (l : List FileR) (k : Nat) : List ByteArray := ByteArray.empty :: ((l.take k).filter fun x => x.d).map FileR.p
theorem dirsF_succ {l : List FileR} {k : Nat} (h : k < l.length) : dirsF l (k + 1) = if (fAt l k).d then dirsF l k ++ [(fAt l k).p] else dirsF l k := by
  unfold dirsF
  rw [take_fAt h, List.filter_append, List.map_append]
  cases hd : (fAt l k).d <;> simp [hd]
def timesF (l : List FileR) (D : List ByteArray) (i : Nat) : Nat := (D.filter fun u => kidB u (fAt l i)).length
theorem timesF_snoc (l : List FileR) (D : List ByteArray) (u : ByteArray) (i : Nat) : timesF l (D ++ [u]) i = timesF l D i + if kidB u (fAt l i) then 1 else 0 := by
  unfold timesF
  rw [List.filter_append, List.length_append]
  cases h : kidB u (fAt l i) <;> simp [h]
theorem one_of {D : List ByteArray} {a : ByteArray} : D.Pairwise (· ≠ ·) → a ∈ D → (D.filter fun u => decide (u = a)).length = 1 := by
  induction D with
  | nil => intro _ h; cases h
  | cons x D ih =>
    intro hp hm
    rw [List.pairwise_cons] at hp
    by_cases e : x = a
    · subst e
      have : (D.filter fun u => decide (u = x)) = [] := List.filter_eq_nil_iff.2 fun y hy => by
        have := hp.1 y hy
        simp only [decide_eq_true_eq]
        exact fun e => this e.symm
      rw [List.filter_cons_of_pos (by simp), this]; rfl
    · rw [List.filter_cons_of_neg (by simp [e])]
      exact ih hp.2 ((List.mem_cons.1 hm).resolve_left fun e2 => e e2.symm)
theorem empty_of {u : ByteArray} (h : u.size = 0) : u = ByteArray.empty := by
  cases u with | mk d => have : d.size = 0 := h; simp at this; rw [this]; rfl
theorem may_size {u : ByteArray} (h : mayPath u.data.toList = true) : u.size ≠ 0 := fun e => by
  have := mayPath_ne h
  rw [← data_size] at e
  exact this (List.length_eq_zero_iff.1 e)
/-- Of a tree each one stands among the kids of just one directory, or of the root. -/
theorem tree_kids {l : List FileR} (h : TreeQ l) {i : Nat} (hi : i < l.length) : timesF l (dirsF l l.length) i = 1 := by
  have hmem : ∀ u ∈ dirsF l l.length, u = ByteArray.empty ∨ ∃ x ∈ l, x.d = true ∧ x.p = u := by
    intro u hu
    unfold dirsF at hu
    rcases List.mem_cons.1 hu with e | e
    · exact .inl e
    · obtain ⟨x, hx, rfl⟩ := List.mem_map.1 e
      rw [List.mem_filter, List.take_length] at hx
      exact .inr ⟨x, hx.1, hx.2, rfl⟩
  have hpw : (dirsF l l.length).Pairwise (· ≠ ·) := by
    unfold dirsF
    rw [List.take_length, List.pairwise_cons]
    constructor
    · intro u hu e
      obtain ⟨x, hx, rfl⟩ := List.mem_map.1 hu
      have := may_size (h.may (List.mem_filter.1 hx).1)
      rw [← e] at this
      exact this rfl
    · rw [List.pairwise_map]
      refine (h.rise.sublist List.filter_sublist).imp ?_
      intro x y hxy e
      unfold FileR.P at hxy
      rw [e, bless_irrefl] at hxy; cases hxy
  unfold timesF
  generalize hp : (fAt l i).p = p
  have hmay : mayPath p.data.toList = true := by rw [← hp]; exact h.may (fAt_mem hi)
  cases hu : upP p.data.toList with
  | none =>
    obtain ⟨h1, h2⟩ := upT_none hu
    rw [← one_of (a := ByteArray.empty) hpw (by unfold dirsF; exact List.mem_cons_self ..)]
    congr 1
    refine List.filter_congr fun u _ => ?_
    unfold kidB
    rw [hp, h1, h2]
    by_cases e : u = ByteArray.empty
    · subst e; rfl
    · rw [decide_eq_false (fun x => e x.symm), decide_eq_false e]; rfl
  | some v =>
    obtain ⟨h1, h2⟩ := upT_some hu
    have hv : (strB v).size ≠ 0 := by
      have h3 := mayPath_ne (mayPath_up hmay hu)
      rw [strB_size]
      exact fun e => h3 (List.length_eq_zero_iff.1 e)
    have hin : strB v ∈ dirsF l l.length := by
      have := h.up _ (fAt_mem hi) (by rw [hp]; exact h2)
      rw [hp, h1] at this
      obtain ⟨x, hx, e1, e2⟩ := dirIn_iff.1 this
      unfold dirsF
      rw [List.take_length]
      exact List.mem_cons_of_mem _ (List.mem_map.2 ⟨x, List.mem_filter.2 ⟨hx, e2⟩, e1⟩)
    rw [← one_of hpw hin]
    congr 1
    refine List.filter_congr fun u _ => ?_
    unfold kidB
    rw [hp, h1, h2]
    by_cases e : u = strB v
    · subst e; rw [decide_eq_true rfl, decide_eq_true hv]; rfl
    · rw [decide_eq_false (fun x => e x.symm), decide_eq_false e]; rfl
/-- Steps put together, one by one. -/
theorem join_snoc : ∀ (a : List (List UInt8)) (x : List UInt8), a ≠ [] → joinS (a ++ [x]) = joinS a ++ 47 :: x
  | [], x, h => absurd rfl h
  | [s], x, _ => rfl
  | s :: t :: a, x, _ => by
    have h1 : (s :: t :: a) ++ [x] = s :: ((t :: a) ++ [x]) := rfl
    rw [h1, joinS_cons s (t := (t :: a) ++ [x]) (by simp), join_snoc (t :: a) x (by simp), joinS_cons s (t := t :: a) (by simp)]
    simp
def tAt (l : List ByteArray) (i : Nat) : ByteArray := l.getD i ByteArray.empty
theorem tAt_eq {l : List ByteArray} {i : Nat} (h : i < l.length) : tAt l i = l[i] := by unfold tAt; rw [List.getD_eq_getElem?_getD, List.getElem?_eq_getElem h]; rfl
def joinT (l : List ByteArray) (k : Nat) : ByteArray := strB (joinS ((l.take k).map fun x => x.data.toList))
theorem joinT_zero (l : List ByteArray) : joinT l 0 = ByteArray.empty := rfl
theorem strB_of (x : ByteArray) : strB x.data.toList = x := strB_data x
theorem joinT_succ {l : List ByteArray} {k : Nat} (h : k < l.length) : joinT l (k + 1) = if k = 0 then tAt l k else joinT l k ++ strB [47] ++ tAt l k := by
  unfold joinT
  rw [List.take_succ_eq_append_getElem h, List.map_append, tAt_eq h]
  by_cases e : k = 0
  · subst e
    simp only [List.take_zero, List.map_nil, List.nil_append, List.map_cons, if_true]
    exact strB_data _
  · rw [if_neg e]
    rw [List.map_cons, List.map_nil, join_snoc _ _ (by
      intro e2
      have := congrArg List.length e2
      simp only [List.length_map, List.length_take, List.length_nil] at this
      omega)]
    rw [← strB_data l[k], strB_append, strB_append, strB_data]
    simp
theorem joinT_steps {p : ByteArray} (h : p.size ≠ 0) : joinT (stepsT p) (stepsT p).length = p := by
  unfold joinT stepsT
  rw [if_neg h, List.take_length, List.map_map]
  have : ((fun x : ByteArray => x.data.toList) ∘ strB) = id := by funext x; simp [strB]
  rw [this, List.map_id, join_split]
  exact strB_data p
theorem steps_many {p : ByteArray} (h : p.size ≠ 0) : upIs p = decide (1 < (stepsT p).length) := by
  unfold upIs stepsT
  rw [if_neg h, List.length_map]
  exact up_many
theorem steps_last {p : ByteArray} (h : p.size ≠ 0) (hu : upIs p = true) : upT p ++ strB [47] ++ tAt (stepsT p) ((stepsT p).length - 1) = p ∧ (∃ s, stepsT p = (if (upT p).size = 0 then [ByteArray.empty] else stepsT (upT p)) ++ [s]) := by
  cases hv : upP p.data.toList with
  | none => rw [(upT_none hv).2] at hu; cases hu
  | some u =>
    obtain ⟨h1, _⟩ := upT_some hv
    obtain ⟨s, e1, e2, e3⟩ := split_up hv
    have hst : stepsT p = (splitP u).map strB ++ [strB s] := by
      unfold stepsT
      rw [if_neg h, e3, List.map_append]; rfl
    constructor
    · rw [hst, h1]
      have : tAt ((splitP u).map strB ++ [strB s]) (((splitP u).map strB ++ [strB s]).length - 1) = strB s := by
        unfold tAt
        rw [List.length_append, List.length_singleton, Nat.add_sub_cancel, List.getD_eq_getElem?_getD, List.getElem?_append_right (Nat.le_refl _)]
        simp
      rw [this, strB_append, strB_append, List.append_assoc]
      show strB (u ++ 47 :: s) = p
      rw [← e1]
      exact strB_data p
    · refine ⟨strB s, ?_⟩
      rw [hst, h1]
      congr 1
      unfold stepsT
      by_cases e : (strB u).size = 0
      · rw [if_pos e]
        rw [strB_size] at e
        have : u = [] := List.length_eq_zero_iff.1 e
        subst this
        rfl
      · rw [if_neg e, if_neg e]
        rfl
end Go.Proofs.YtdpfanifagfciaaDoor
