/- copy of a row, empty or not, into a new row as long as it. No program in sight. -/
import Derived.Test.YteandjophamipaaAppAt
import Derived.Laws.CopyOwn
namespace Go.Proofs.Yteandjophamipaa
open Go.RowKit
theorem setRow_only (w : World) (g : Nat) (c : Array Value) : Chg (fun k => k = g) w (w.setRow g c) :=
  ⟨rfl, rfl, rfl, by simp [World.setRow], fun k hk hne => setRow_other w g k c (by omega)⟩
section
variable {P : Program} {t e : TypeId} {z : Value} {bytes : Nat} (E : ElemTy P t e z bytes) (hsz : (P.info? e).map (·.size) = some 1) {w : World} {ops : Array Oper} {rest : List Oper} {o : Oper} {a : Act} {Q : Exit → Act → World → Prop}
include E hsz
theorem wp_copy_new {α : Type} {R : Value → α → Prop} (hR1 : ∀ u x, R u x → u.oneCell' = true) (hgd : o.guard = none) (d s : Operand) (ho : o.op = .call { callee := .builtin .copy, args := #[d, s], argTypes := #[t, t] })
    (g n c : Nat) (hd : a.eval d = .slice (some ⟨g, 0, none⟩) n c) (v : Value) (hs : a.eval s = v) (r : List α) (hr : SeqAt R w.heap v r) (hn : r.length = n)
    (cur : Array Value) (hg : w.heap[g]? = some (.cells cur e (0, 0))) (hc : cur.size = n)
    (h : ∀ w', Chg (fun k => k = g) w w' → SeqIn (fun k => k = g) e R w'.heap (.slice (some ⟨g, 0, none⟩) n c) r → wpList P ops Q rest (a.put o.dst (.int .i64 (n : Int))) w') : wpList P ops Q (o :: rest) a w := by
  have hl63 : r.length ≤ 9223372036854775807 := by obtain ⟨_, _, _, hl, _⟩ := hr; exact hl
  rcases Nat.eq_zero_or_pos n with h0 | h0
  · subst h0
    have hr0 : r = [] := List.length_eq_zero_iff.1 hn
    subst hr0
    obtain ⟨p, q, e0⟩ := seq_shape hr
    have e1 : v = .slice p 0 q := e0
    subst e1
    exact wpList_copy_nothing hgd d s t t ho e E.ht hsz _ _ _ _ _ _ hd hs (by simp) (h w (Chg.refl _ w) ⟨_, c, rfl, by simp, fun i hi => absurd hi (by simp)⟩)
  · obtain ⟨b, off, q, u, rfl, _⟩ := seq_cell hr (i := 0) (by omega)
    have hadd : ∀ j, (⟨b, off, none⟩ : Addr).add j = ⟨b, off + j, none⟩ := fun j => by unfold Addr.add; split <;> simp_all
    have hvl : (valsH w.heap b off r.length).length = n := by rw [valsH_length, hn]
    refine wpList_copy_own hgd d s t t ho e E.ht hsz g 0 n c ⟨b, off, none⟩ r.length q hd hs cur e hg (valsH w.heap b off r.length) (by rw [hvl, hn]; simp) ?_ (by rw [hvl, hc]; omega) ?_ ?_
    · intro j v hj
      obtain ⟨hj1, hj2⟩ := List.getElem?_eq_some_iff.1 hj
      rw [hadd, (valsH_at hr (by rwa [valsH_length] at hj1) hj1).1, hj2]
    · intro v hv
      obtain ⟨j, hj, rfl⟩ := List.getElem_of_mem hv
      exact hR1 _ _ (valsH_at hr (by rwa [valsH_length] at hj) hj).2
    · have hcl : cur.toList.length = n := by rw [Array.length_toList]; exact hc
      rw [List.drop_of_length_le (by rw [hvl, hcl]; omega), List.take_zero, List.nil_append, List.append_nil]
      have hH := setRow_heap w g cur (valsH w.heap b off r.length).toArray _ _ hg
      rw [hvl]
      refine h _ (setRow_only w g _) ⟨some ⟨g, 0, none⟩, c, by rw [hn], hl63, fun i hi => ?_⟩
      have hi' : i < (valsH w.heap b off r.length).length := by rw [valsH_length]; exact hi
      refine ⟨g, 0, (valsH w.heap b off r.length)[i], rfl, ⟨rfl, typH_of hH⟩, ?_, ?_, (valsH_at hr hi hi').2⟩
      · rw [← froz_of]; unfold World.frozen?; simp only [hH]; simp
      · unfold cellH; simp only [hH]; simp [hi']
end
end Go.Proofs.Yteandjophamipaa
