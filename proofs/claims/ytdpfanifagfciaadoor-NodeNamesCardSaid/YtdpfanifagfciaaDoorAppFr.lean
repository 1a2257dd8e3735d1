/- append of a row of records onto a slice of no cells and no room: always in new memory. -/
import Derived.Test.YtdpfanifagfciaaDoorRecB
namespace Go.Proofs.YtdpfanifagfciaaDoor
open Go.RowKit
section
variable {P : Program} {t e : TypeId} {z : Value} {k bytes : Nat} (E : ElemTyK P t e z k bytes) {w : World} {o : Oper} {a : Act} {K : Act → World → Prop} {Q : Exit → Act → World → Prop} {ops : Array Oper} {rest : List Oper} {Q' : Exit → Act → World → Prop}
include E
theorem run_fresh (ty : TypeId) (g : Nat) (b off m c : Nat) (news : List Value) (hm : news.length = m * k) (h0 : 0 < m)
    (hc : ∀ j (h : j < news.length), w.cell? ⟨b, off + j, none⟩ = some news[j]) (hlen : m * bytes ≤ 140737488355328) :
    ∃ v' w', (Builtin.append_ #[t, t] ty #[.slice (some ⟨g, 0, none⟩) 0 0, .slice (some ⟨b, off, none⟩) m c]).run P w = .ok v' w' ∧ w'.ownsRow w.heap.size e k v' m news ∧ Keeps w w' := by
  obtain ⟨i, h2, h3, h4, h5⟩ := info_parts E.hi
  have hb := E.hb
  have hle : m ≤ m * bytes := Nat.le_mul_of_pos_right _ hb
  subst h4 h5
  have hr := run_append_grow (P := P) w t ty e i z E.ht h2 h3 ⟨g, 0, none⟩ 0 0 [] (by simp) (fun j u hj => by simp at hj) ⟨b, off, none⟩ m c news hm (fun j u hj => by
    obtain ⟨hj1, hj2⟩ := List.getElem?_eq_some_iff.1 hj
    have hadd : (⟨b, off, none⟩ : Addr).add j = ⟨b, off + j, none⟩ := by unfold Addr.add; split <;> simp_all
    rw [hadd, hc j hj1, hj2]) (by omega) (by omega) (growslice_fits (by omega) (by simpa using hlen))
  refine ⟨_, _, hr, ⟨hm, .inr ⟨w.heap.size, _, _, by rw [Nat.zero_add], Nat.le_refl _, heap_alloc_new w.drew _, ?_, ?_, ?_, ?_⟩⟩, ?_⟩
  · have := grownCap_ge w (0 + m) 0 e; simpa using this
  · have := grownCap_le_maxLen w (0 + m) 0 e (by unfold maxLen; omega); simpa using this
  · have hge := grownCap_ge w m 0 e
    have hz := E.hz
    simp only [Array.size_append, List.size_toArray, List.length_nil, size_zeroCells, hz, hm, Nat.zero_add, ← Nat.add_mul]
    congr 1
    omega
  · simp only [Array.toList_append, List.nil_append]
    rw [← hm]
    exact List.take_left
  · exact (show Keeps w w.drew from keeps_refl w).alloc (Nat.le_refl _) _
/-- As a step of a drawn region. -/
theorem oper_fresh (hgd : o.guard = none) (s x : Operand) (ho : o.op = .call { callee := .builtin .append, args := #[s, x], argTypes := #[t, t] })
    (g : Nat) (hs : a.eval s = .slice (some ⟨g, 0, none⟩) 0 0) (b off m c : Nat) (news : List Value) (hx : a.eval x = .slice (some ⟨b, off, none⟩) m c) (hm : news.length = m * k) (h0 : 0 < m)
    (hc : ∀ j (h : j < news.length), w.cell? ⟨b, off + j, none⟩ = some news[j]) (hlen : m * bytes ≤ 140737488355328)
    (h : ∀ v' w', w'.ownsRow w.heap.size e k v' m news → Keeps w w' → K (a.put o.dst v') w') : Oper.wp P o a w K Q := by
  have hgd := hgd
  obtain ⟨v', w', hr, h2, h3⟩ := run_fresh (w := w) E o.type g b off m c news hm h0 hc hlen
  unfold Oper.wp execOp
  simp only [ho, resolve, invoke, builtin, Sem.run_bind, Sem.run_pure, Result.andThen_ok, List.map_toArray, List.map_cons, List.map_nil, hs, hx, hr]
  exact h v' w' h2 h3
/-- In a row of operations. -/
theorem wp_fresh (hgd : o.guard = none) (s x : Operand) (ho : o.op = .call { callee := .builtin .append, args := #[s, x], argTypes := #[t, t] })
    (g : Nat) (hs : a.eval s = .slice (some ⟨g, 0, none⟩) 0 0) (b off m c : Nat) (news : List Value) (hx : a.eval x = .slice (some ⟨b, off, none⟩) m c) (hm : news.length = m * k) (h0 : 0 < m)
    (hc : ∀ j (h : j < news.length), w.cell? ⟨b, off + j, none⟩ = some news[j]) (hlen : m * bytes ≤ 140737488355328)
    (h : ∀ v' w', w'.ownsRow w.heap.size e k v' m news → Keeps w w' → wpList P ops Q' rest (a.put o.dst v') w') : wpList P ops Q' (o :: rest) a w :=
  wpList_plain hgd fun _ hK => oper_fresh E hgd s x ho g hs b off m c news hx hm h0 hc hlen fun v' w' h2 h3 => hK _ _ (h v' w' h2 h3)
end
/-- A slice whose cells may be written, whatever they hold. -/
theorem SeqIn.blank {α : Type} {S : Nat → Prop} {E : TypeId} {R : Value → α → Prop} {h : Array Obj} {v : Value} {l : List α} (s : SeqIn S E R h v l) : SeqIn S E (fun _ _ => True) h v l := s.mono (fun _ x => x) fun _ _ _ => trivial
theorem SeqIn.store {α : Type} {S : Nat → Prop} {E : TypeId} {w : World} {v : Value} {l : List α} (s : SeqIn S E (fun _ _ => True) w.heap v l) {b i : Nat} {u : Value} (hu : w.cell? ⟨b, i, none⟩ = some u) (x : Value) : SeqIn S E (fun _ _ => True) (w.setCell ⟨b, i, none⟩ x).heap v l := by
  obtain ⟨a, cap, e, hl, hel⟩ := s
  rw [cell_of] at hu
  refine ⟨a, cap, e, hl, fun j hj => ?_⟩
  obtain ⟨b', off, y, e1, ⟨hs, ht⟩, e2, e3, _⟩ := hel j hj
  refine ⟨b', off, if b = b' ∧ i = off + j then x else y, e1, ⟨hs, by rw [typH_set]; exact ht⟩, by rw [frozH_set]; exact e2, ?_, trivial⟩
  rw [cellH_set w b i b' (off + j) x u hu]
  split
  · rfl
  · exact e3
theorem RecIn.blank {α : Type} {S : Nat → Prop} {E : TypeId} {k : Nat} {R : List Value → α → Prop} {h : Array Obj} {v : Value} {l : List α} (s : RecIn S E k R h v l) : RecIn S E k (fun _ _ => True) h v l := s.mono (fun _ x => x) fun _ _ _ => trivial
theorem RecIn.store {α : Type} {S : Nat → Prop} {E : TypeId} {k : Nat} {w : World} {v : Value} {l : List α} (s : RecIn S E k (fun _ _ => True) w.heap v l) {b i : Nat} {u : Value} (hu : w.cell? ⟨b, i, none⟩ = some u) (x : Value) : RecIn S E k (fun _ _ => True) (w.setCell ⟨b, i, none⟩ x).heap v l := by
  obtain ⟨a, cap, e, hl, hel⟩ := s
  rw [cell_of] at hu
  refine ⟨a, cap, e, hl, fun j hj => ?_⟩
  obtain ⟨b', off, us, e1, ⟨hs, ht⟩, e2, e3, _⟩ := hel j hj
  have hg : ∀ q (hq : q < us.length), ∃ y, cellH (w.setCell ⟨b, i, none⟩ x).heap b' (off + j * k + q) = some y := fun q hq => by
    rw [cellH_set w b i b' (off + j * k + q) x u hu]
    split
    · exact ⟨_, rfl⟩
    · exact ⟨_, (e3 q hq).2⟩
  refine ⟨b', off, (List.range us.length).map fun q => ((cellH (w.setCell ⟨b, i, none⟩ x).heap b' (off + j * k + q)).getD undef), e1, ⟨hs, by rw [typH_set]; exact ht⟩, by simpa using e2, fun q hq => ⟨?_, ?_⟩, trivial⟩
  · rw [frozH_set]; exact (e3 q (by simpa using hq)).1
  · have hq' : q < us.length := by simpa using hq
    obtain ⟨y, hy⟩ := hg q hq'
    simp [hy]
end Go.Proofs.YtdpfanifagfciaaDoor
