/- A list of records without one of them: what 'append(append([]T{}, l[:k]...), l[k+1:]...)' makes, by its cells; the predicate of its drawn region. No program in sight. -/
import Derived.Test.YtdpfanifagfciaaDoorLine
import Derived.Test.YtdpfanifagfciaaDoorRecB
namespace Go.Proofs.YtdpfanifagfciaaDoor
open Go.RowKit
section
variable {P : Program} {t e : TypeId} {z : Value} {k bytes : Nat} (E : ElemTyK P t e z k bytes) {w : World} {o : Oper} {a : Act} {Q : Exit → Act → World → Prop} {K : Act → World → Prop}
include E
/-- append of m records that lie in a row (none of them, too), at the operation itself. -/
theorem oper_apprs (hgd : o.guard = none) (s x : Operand) (ho : o.op = .call { callee := .builtin .append, args := #[s, x], argTypes := #[t, t] })
    (base : Nat) (v : Value) (n : Nat) (xs : List Value) (hs : a.eval s = v) (hown : w.ownsRow base e k v n xs) (b off m c : Nat) (news : List Value) (hx : a.eval x = .slice (some ⟨b, off, none⟩) m c) (hm : news.length = m * k)
    (hc : ∀ j (h : j < news.length), w.cell? ⟨b, off + j, none⟩ = some news[j]) (h1 : ∀ u ∈ news, u.oneCell' = true)
    (hlen : (n + m) * bytes ≤ 140737488355328) (hbase : base ≤ w.heap.size)
    (h : ∀ v' w', w'.ownsRow base e k v' (n + m) (xs ++ news) → Chg (fun q => v.ownBlock = some q) w w' → K (a.put o.dst v') w') : Oper.wp P o a w K Q := by
  obtain ⟨i, h2, h3, h4, h5⟩ := info_parts E.hi
  have hb := E.hb
  have hle : n + m ≤ (n + m) * bytes := Nat.le_mul_of_pos_right _ hb
  obtain ⟨v', w', hr, h6, h7, _⟩ := run_append_own (P := P) (w := w) base t o.type e i z k bytes E.ht h2 h3 h4 h5 E.hz E.hk v n xs hown ⟨b, off, none⟩ m c news hm (fun j u hj => by
    obtain ⟨hj1, hj2⟩ := List.getElem?_eq_some_iff.1 hj
    have hadd : (⟨b, off, none⟩ : Addr).add j = ⟨b, off + j, none⟩ := by unfold Addr.add; split <;> simp_all
    rw [hadd, hc j hj1, hj2]) h1 (by unfold maxLen; omega) hlen hbase
  unfold Oper.wp
  simp [execOp, ho, resolve, invoke, builtin, hs, hx, hr, Result.andThen]
  exact h v' w' h6 ((Chg.refl _ w).grown h7 fun q hq _ => hq)
end
theorem own_emptyK (w : World) (base : Nat) (e : TypeId) (k : Nat) (hb : base ≤ w.heap.size) : (w.alloc (.cells #[] e)).ownsRow base e k (.slice (some ⟨w.heap.size, 0, none⟩) 0 0) 0 [] :=
  ⟨by simp, .inr ⟨w.heap.size, 0, #[], rfl, hb, by unfold World.alloc; simp, Nat.le_refl _, by simp [maxLen], by simp, by simp⟩⟩
/-- A slice of records, by its cells. -/
theorem rec_us {α : Type} {k : Nat} {R : List Value → α → Prop} {h : Array Obj} {b o n c : Nat} {l : List α} (s : RecAt k R h (.slice (some ⟨b, o, none⟩) n c) l) :
    ∃ us : List (List Value), us.length = l.length ∧ (∀ i (h : i < us.length), us[i].length = k) ∧ (∀ i (h : i < us.length) (h' : i < l.length), R us[i] l[i]) ∧ ∀ j (hj : j < us.flatten.length), cellH h b (o + j) = some us.flatten[j] := by
  obtain ⟨a, cap, e, hl, hel⟩ := s
  injection e with e1 e2 e3
  have hex : ∀ i, i < l.length → ∃ us : List Value, us.length = k ∧ (∀ j (hj : j < us.length), cellH h b (o + i * k + j) = some us[j]) ∧ ∀ h' : i < l.length, R us l[i] := fun i hi => by
    obtain ⟨b', off', us, x1, x2, x3, x4⟩ := hel i hi
    rw [← e1] at x1
    simp only [Option.some.injEq, Addr.mk.injEq, and_true] at x1
    obtain ⟨rfl, rfl⟩ := x1
    exact ⟨us, x2, x3, fun _ => x4⟩
  obtain ⟨X, hX⟩ : ∃ X : Nat → List Value, ∀ i, i < l.length → (X i).length = k ∧ (∀ j (hj : j < (X i).length), cellH h b (o + i * k + j) = some (X i)[j]) ∧ ∀ h' : i < l.length, R (X i) l[i] := by
    refine ⟨fun i => if hi : i < l.length then Classical.choose (hex i hi) else [], fun i hi => ?_⟩
    simp only [dif_pos hi]
    exact Classical.choose_spec (hex i hi)
  refine ⟨(List.range l.length).map X, by simp, fun i hi => ?_, fun i hi hi' => ?_, fun j hj => ?_⟩
  · simp at hi; simpa using (hX i hi).1
  · simpa using (hX i hi').2.2 hi'
  · have hk : ∀ i (h : i < ((List.range l.length).map X).length), ((List.range l.length).map X)[i].length = k := fun i hi => by simp at hi; simpa using (hX i hi).1
    have hfl := flat_length _ hk
    rw [List.length_map, List.length_range] at hfl
    have hk0 : 0 < k := by
      rcases Nat.eq_zero_or_pos k with e | e
      · rw [e, Nat.mul_zero] at hfl; omega
      · exact e
    have hq : j / k < l.length := by rw [Nat.div_lt_iff_lt_mul hk0]; omega
    have hr := Nat.mod_lt j hk0
    have hj' : j / k * k + j % k = j := by rw [Nat.mul_comm]; exact Nat.div_add_mod j k
    have h4 := flat_at _ hk (j / k) (j % k) (by simpa using hq) (by rw [hk]; exact hr)
    rw [hj', List.getElem?_eq_getElem hj] at h4
    have h5 := (hX (j / k) hq).2.1 (j % k) (by rw [(hX _ hq).1]; exact hr)
    rw [Nat.add_assoc, hj'] at h5
    rw [h5, h4]; simp
/-- Own cells as a slice of records. -/
theorem ownRec_of {α : Type} {base : Nat} {E : TypeId} {k : Nat} {R : List Value → α → Prop} {w : World} {v : Value} {n : Nat} {us : List (List Value)} {l : List α} (h : w.ownsRow base E k v n us.flatten) (hn : us.length = n) (hl : us.length = l.length) (hr : ∀ i (h : i < us.length) (h' : i < l.length), us[i].length = k ∧ R us[i] l[i]) : OwnRec base E k R w v l :=
  ⟨us, by rw [hn]; exact h, hl, hr⟩
theorem flat_take {k : Nat} : ∀ (us : List (List Value)) (m : Nat), (∀ i (h : i < us.length), us[i].length = k) → us.flatten.take (m * k) = (us.take m).flatten ∧ us.flatten.drop (m * k) = (us.drop m).flatten
  | [], m, _ => by simp
  | u :: us, 0, _ => by simp
  | u :: us, m + 1, h => by
    have h0 : u.length = k := by have := h 0 (by simp); simpa using this
    obtain ⟨h1, h2⟩ := flat_take us m fun i hi => by have := h (i + 1) (by simp; omega); simpa using this
    have e : (m + 1) * k = u.length + m * k := by rw [h0, Nat.add_mul]; omega
    constructor
    · rw [List.flatten_cons, e, List.take_length_add_append, h1]; rfl
    · rw [List.flatten_cons, e, List.drop_length_add_append, h2]; rfl
theorem cut_recs {α : Type} {k : Nat} {R : List Value → α → Prop} {us : List (List Value)} {l : List α} {κ : Nat} (hκ : κ < l.length) (hn : us.length = l.length) (hk : ∀ i (h : i < us.length), us[i].length = k) (hr : ∀ i (h : i < us.length) (h' : i < l.length), R us[i] l[i]) :
    ∃ us' : List (List Value), us.flatten.take (κ * k) ++ us.flatten.drop ((κ + 1) * k) = us'.flatten ∧ us'.length = l.length - 1 ∧ us'.length = (l.take κ ++ l.drop (κ + 1)).length ∧ ∀ i (h : i < us'.length) (h' : i < (l.take κ ++ l.drop (κ + 1)).length), us'[i].length = k ∧ R us'[i] (l.take κ ++ l.drop (κ + 1))[i] := by
  have hl1 : (us.take κ).length = κ := by rw [List.length_take]; omega
  have hl2 : (l.take κ).length = κ := by rw [List.length_take]; omega
  refine ⟨us.take κ ++ us.drop (κ + 1), by rw [(flat_take us κ hk).1, (flat_take us (κ + 1) hk).2, List.flatten_append], by simp; omega, by simp; omega, fun i hi hi' => ?_⟩
  simp only [List.length_append, List.length_drop, hl1, hl2] at hi hi'
  by_cases e : i < κ
  · rw [List.getElem_append_left (by omega), List.getElem_append_left (by omega), List.getElem_take, List.getElem_take]
    exact ⟨hk _ _, hr _ _ _⟩
  · rw [List.getElem_append_right (by omega), List.getElem_append_right (by omega), List.getElem_drop, List.getElem_drop]
    simp only [hl1, hl2]
    exact ⟨hk _ _, hr _ _ _⟩
theorem guard_none {need : List (List Nat)} {G : Nat → Value → World → Prop} {i : Nat} {o : Oper} (h : o.guard = none) : GuardAt need G i o := fun g b e => by rw [h] at e; cases e
/-- The region's predicate. -/
def lessK (E : TypeId) (k N : Nat) (F : List Value) (n κ b o q i : Nat) (v : Value) (w : World) : Prop :=
  if i = 0 then w.ownsRow N E k v 0 []
  else if i = 4 then w.ownsRow N E k v κ (F.take (κ * k))
  else if i = 9 then w.ownsRow N E k v (n - 1) (F.take (κ * k) ++ F.drop ((κ + 1) * k))
  else if i = 10 then w.ownsRow N E k v (n - 1) (F.take (κ * k) ++ F.drop ((κ + 1) * k))
  else v = ([undef, .slice (some ⟨b, o, none⟩) n q, .int .i64 (κ : Int), .slice (some ⟨b, o, none⟩) κ q, undef, .slice (some ⟨b, o, none⟩) n q, .int .i64 (κ : Int), .int .i64 ((κ : Int) + 1), .slice (if q = κ + 1 then some ⟨b, o, none⟩ else some ⟨b, o + (κ + 1) * k, none⟩) (n - (κ + 1)) (q - (κ + 1))] : List Value).getD i undef
theorem lessK_alloc {E : TypeId} {k N : Nat} {F : List Value} {n κ b o q i : Nat} {v : Value} {w : World} (h : lessK E k N F n κ b o q i v w) (x : Obj) : lessK E k N F n κ b o q i v (w.alloc x) := by
  unfold lessK at *
  split
  · rename_i e; rw [if_pos e] at h; exact h.alloc x
  · rename_i e; rw [if_neg e] at h
    split
    · rename_i e; rw [if_pos e] at h; exact h.alloc x
    · rename_i e; rw [if_neg e] at h
      split
      · rename_i e; rw [if_pos e] at h; exact h.alloc x
      · rename_i e; rw [if_neg e] at h
        split
        · rename_i e; rw [if_pos e] at h; exact h.alloc x
        · rename_i e; rw [if_neg e] at h; exact h
theorem lessK_same {E : TypeId} {k N : Nat} {F : List Value} {n κ b o q i : Nat} {v : Value} {w w' : World} (h : lessK E k N F n κ b o q i v w) (h0 : i ≠ 0) (h4 : i ≠ 4) (h9 : i ≠ 9) (h10 : i ≠ 10) : lessK E k N F n κ b o q i v w' := by
  unfold lessK at *
  rw [if_neg h0, if_neg h4, if_neg h9, if_neg h10] at *
  exact h
end Go.Proofs.YtdpfanifagfciaaDoor
