/- Slices that a call makes by append: what they hold; the law on one element more, on a list more. No program in sight. -/
import Derived.Test.YtdpfanifagfciaaDoorSeq
import Derived.Laws.AppendOwnNone
namespace Go.Proofs.YtdpfanifagfciaaDoor
open Go.RowKit

/-- A slice type t of one-cell elements of type e. -/
structure ElemTy (P : Program) (t e : TypeId) (z : Value) (bytes : Nat) : Prop where
  ht : P.underlying t = some (.slice e)
  hi : (P.info? e).map (fun i => (i.zero, i.size, i.bytes)) = some (some z, 1, bytes)
  hz : z.cells.size = 1
  hb : 1 ≤ bytes

/-- A slice of the call's own, that starts at its row's head: element i is in relation R to the list's. -/
def OwnSeq {α : Type} (base : Nat) (E : TypeId) (R : Value → α → Prop) (w : World) (v : Value) (l : List α) : Prop :=
  ∃ us : List Value, w.ownsRow base E 1 v us.length us ∧ us.length = l.length ∧ ∀ i (h : i < us.length) (h' : i < l.length), R us[i] l[i]
theorem OwnSeq.nil {α : Type} (base : Nat) (E : TypeId) (R : Value → α → Prop) (w : World) : OwnSeq base E R w (.slice none 0 0) [] :=
  ⟨[], World.ownsRow_nil _ _ _ _, rfl, fun i h => absurd h (by simp)⟩
theorem OwnSeq.push {α : Type} {base : Nat} {E : TypeId} {R R' : Value → α → Prop} {w' : World} {v' : Value} {l : List α} {us : List Value} {u : Value} {x : α}
    (h1 : us.length = l.length) (h2 : ∀ i (h : i < us.length) (h' : i < l.length), R us[i] l[i]) (h3 : w'.ownsRow base E 1 v' (us.length + 1) (us ++ [u])) (hr : ∀ a b, b ∈ l → R a b → R' a b) (hx : R' u x) :
    OwnSeq base E R' w' v' (l ++ [x]) := by
  refine ⟨us ++ [u], by rw [List.length_append]; exact h3, by rw [List.length_append, List.length_append, h1]; rfl, fun i hi hi' => ?_⟩
  rw [List.length_append] at hi hi'
  simp only [List.length_cons, List.length_nil] at hi hi'
  by_cases e : i < us.length
  · rw [List.getElem_append_left e, List.getElem_append_left (by omega)]
    exact hr _ _ (List.getElem_mem _) (h2 i e (by omega))
  · have e1 : i = us.length := by omega
    subst e1
    rw [List.getElem_append_right (by omega), List.getElem_append_right (by omega)]
    simpa using hx
theorem own_block {w : World} {base : Nat} {E : TypeId} {v : Value} {n : Nat} {us : List Value} (h : w.ownsRow base E 1 v n us) : ∀ k, v.ownBlock = some k → base ≤ k ∧ k < w.heap.size ∧ typH w.heap k = some E := by
  intro k hk
  obtain ⟨h1, h2⟩ := h.lt k hk
  rcases h.2 with ⟨rfl, _⟩ | ⟨g, cap, cur, rfl, _, hg, _⟩
  · cases hk
  · simp only [Value.ownBlock, Option.some.injEq] at hk
    subst hk
    exact ⟨h1, h2, typH_of hg⟩
theorem owns_chg {T : Nat → Prop} {w w' : World} {base : Nat} {E : TypeId} {v : Value} {n : Nat} {us : List Value} (h : w.ownsRow base E 1 v n us) (c : Chg T w w') (ht : ∀ k, v.ownBlock = some k → ¬ T k) : w'.ownsRow base E 1 v n us := by
  obtain ⟨h1, h2⟩ := h
  refine ⟨h1, ?_⟩
  rcases h2 with h2 | ⟨g, cap, cur, rfl, hb, hg, r⟩
  · exact .inl h2
  · refine .inr ⟨g, cap, cur, rfl, hb, ?_, r⟩
    rw [c.2.2.2.2 g (Array.getElem?_eq_some_iff.1 hg).1 (ht g rfl)]; exact hg
theorem OwnSeq.chg {α : Type} {T : Nat → Prop} {base : Nat} {E : TypeId} {R R' : Value → α → Prop} {w w' : World} {v : Value} {l : List α} (h : OwnSeq base E R w v l) (c : Chg T w w')
    (ht : ∀ k, v.ownBlock = some k → ¬ T k) (hr : ∀ a b, b ∈ l → R a b → R' a b) : OwnSeq base E R' w' v l := by
  obtain ⟨us, h1, h2, h3⟩ := h
  exact ⟨us, owns_chg h1 c ht, h2, fun i hi hi' => hr _ _ (List.getElem_mem _) (h3 i hi hi')⟩
/-- It reads as that list, in blocks from base on. -/
theorem OwnSeq.seq {α : Type} {base : Nat} {E : TypeId} {R : Value → α → Prop} {w : World} {v : Value} {l : List α} (h : OwnSeq base E R w v l) (hl : l.length ≤ 9223372036854775807) : SeqIn (base ≤ ·) E R w.heap v l := by
  obtain ⟨us, ⟨h0, h1⟩, h2, h3⟩ := h
  rcases h1 with ⟨rfl, hn⟩ | ⟨g, cap, cur, rfl, hb, hg, hc1, hc2, hc3, hc4⟩
  · have : l = [] := List.length_eq_zero_iff.1 (by omega)
    subst this
    exact SeqIn.nil _ _ _ _
  · refine ⟨some ⟨g, 0, none⟩, cap, by rw [h2], hl, fun i hi => ⟨g, 0, us[i]'(by omega), rfl, ⟨hb, typH_of hg⟩, ?_, ?_, h3 i (by omega) hi⟩⟩
    · rw [← froz_of]; unfold World.frozen?; simp only [hg]; simp
    · rw [Nat.zero_add]
      unfold cellH; simp only [hg]
      have : cur.toList[i]? = some (us[i]'(by omega)) := by
        have h5 : (cur.toList.take (us.length * 1))[i]? = us[i]? := by rw [hc4]
        rw [List.getElem?_take, if_pos (by omega), List.getElem?_eq_getElem (l := us) (by omega)] at h5
        exact h5
      rw [← this, Array.getElem?_toList]

section
variable {P : Program} {t e : TypeId} {z : Value} {bytes : Nat} (E : ElemTy P t e z bytes) {w : World} {ops : Array Oper} {rest : List Oper} {o : Oper} {a : Act} {Q : Exit → Act → World → Prop}
include E
/-- 'append(s, xs..)' where the new cells lie in a row: m of them. -/
theorem wp_apps (hgd : o.guard = none) (s x : Operand) (ho : o.op = .call { callee := .builtin .append, args := #[s, x], argTypes := #[t, t] })
    (base : Nat) (v : Value) (xs : List Value) (hs : a.eval s = v) (hown : w.ownsRow base e 1 v xs.length xs) (b off m c : Nat) (news : List Value) (hx : a.eval x = .slice (some ⟨b, off, none⟩) m c) (hm : news.length = m)
    (hc : ∀ j (h : j < news.length), w.cell? ⟨b, off + j, none⟩ = some news[j]) (h1 : ∀ u ∈ news, u.oneCell' = true)
    (hlen : (xs.length + news.length) * bytes ≤ 140737488355328) (hbase : base ≤ w.heap.size)
    (h : ∀ v' w', w'.ownsRow base e 1 v' (xs.length + news.length) (xs ++ news) → Chg (fun k => v.ownBlock = some k) w w' → wpList P ops Q rest (a.put o.dst v') w') : wpList P ops Q (o :: rest) a w := by
  obtain ⟨i, h2, h3, h4, h5⟩ := info_parts E.hi
  have hb := E.hb
  have hle : xs.length + news.length ≤ (xs.length + news.length) * bytes := Nat.le_mul_of_pos_right _ hb
  refine wpList_append_own _ hgd s x t ho base e i z 1 bytes E.ht h2 h3 h4 h5 E.hz (by decide) v xs.length xs hs hown ⟨b, off, none⟩ m c news hx (by omega) ?_ h1 (by unfold maxLen; omega) (by rw [← hm]; exact hlen) hbase ?_
  · intro j u hj
    obtain ⟨hj1, hj2⟩ := List.getElem?_eq_some_iff.1 hj
    have hadd : (⟨b, off, none⟩ : Addr).add j = ⟨b, off + j, none⟩ := by unfold Addr.add; split <;> simp_all
    rw [hadd, hc j hj1, hj2]
  · intro v' w' h6 h7 _
    refine h v' w' (by rw [hm]; exact h6) ?_
    exact (Chg.refl _ w).grown h7 fun k hk _ => hk
/-- 'append(s, x)': the one new cell at the head of a block. -/
theorem wp_app1 (hgd : o.guard = none) (s x : Operand) (ho : o.op = .call { callee := .builtin .append, args := #[s, x], argTypes := #[t, t] })
    (base : Nat) (v : Value) (xs : List Value) (hs : a.eval s = v) (hown : w.ownsRow base e 1 v xs.length xs) (b : Nat) (u : Value) (hx : a.eval x = .slice (some ⟨b, 0, none⟩) 1 1)
    (hc : w.cell? ⟨b, 0, none⟩ = some u) (h1 : u.oneCell' = true)
    (hlen : (xs.length + 1) * bytes ≤ 140737488355328) (hbase : base ≤ w.heap.size)
    (h : ∀ v' w', w'.ownsRow base e 1 v' (xs.length + 1) (xs ++ [u]) → Chg (fun k => v.ownBlock = some k) w w' → wpList P ops Q rest (a.put o.dst v') w') : wpList P ops Q (o :: rest) a w :=
  wp_apps E hgd s x ho base v xs hs hown b 0 1 1 [u] hx rfl (fun j hj => by
    have : j = 0 := by simp only [List.length_cons, List.length_nil] at hj; omega
    subst this; exact hc) (fun y hy => by rw [List.mem_singleton.1 hy]; exact h1) hlen hbase h
end
end Go.Proofs.YtdpfanifagfciaaDoor
