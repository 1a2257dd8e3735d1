/- append onto a row of the call's own, and where the new row lies. No program in sight. -/
import Derived.Test.YteandjophamipaaApp
import Derived.ArgAppend
import Derived.Laws.OwnMore
namespace Go.Proofs.Yteandjophamipaa
open Go.RowKit
theorem own_lower {w : World} {B B' : Nat} {e : TypeId} {v : Value} {n : Nat} {xs : List Value} (h : w.ownsRow B e 1 v n xs) (hB : B' ≤ B) : w.ownsRow B' e 1 v n xs := by
  obtain ⟨h1, h2⟩ := h
  refine ⟨h1, ?_⟩
  rcases h2 with h2 | ⟨g, cap, cur, e1, hb, r⟩
  · exact .inl h2
  · exact .inr ⟨g, cap, cur, e1, Nat.le_trans hB hb, r⟩
/-- It lies where that one lies, or in a new block. -/
def Loc (v : Value) (B : Nat) (v' : Value) : Prop := ∀ k, v'.ownBlock = some k → v.ownBlock = some k ∨ B ≤ k
section
variable {P : Program} {t e : TypeId} {z : Value} {bytes : Nat} (E : ElemTy P t e z bytes) {w : World} {ops : Array Oper} {rest : List Oper} {o : Oper} {a : Act} {Q : Exit → Act → World → Prop}
include E
theorem run_app_loc (ty : TypeId) (base : Nat) (v : Value) (xs : List Value) (hown : w.ownsRow base e 1 v xs.length xs) (b off m c : Nat) (news : List Value) (hm : news.length = m)
    (hc : ∀ j (h : j < news.length), w.cell? ⟨b, off + j, none⟩ = some news[j]) (h1 : ∀ u ∈ news, u.oneCell' = true)
    (hlen : (xs.length + news.length) * bytes ≤ 140737488355328) (hbase : base ≤ w.heap.size) :
    ∃ v' w', (Builtin.append_ #[t, t] ty #[v, .slice (some ⟨b, off, none⟩) m c]).run P w = .ok v' w' ∧ w'.ownsRow base e 1 v' (xs.length + news.length) (xs ++ news) ∧ Chg (fun k => v.ownBlock = some k) w w' ∧ Loc v w.heap.size v' := by
  obtain ⟨i, h2, h3, h4, h5⟩ := info_parts E.hi
  have hb := E.hb
  have hle : xs.length + news.length ≤ (xs.length + news.length) * bytes := Nat.le_mul_of_pos_right _ hb
  have hadd : ∀ (b off j : Nat), (⟨b, off, none⟩ : Addr).add j = ⟨b, off + j, none⟩ := fun b off j => by unfold Addr.add; split <;> simp_all
  have hc' : ∀ j u, news[j]? = some u → w.cell? ((⟨b, off, none⟩ : Addr).add j) = some u := fun j u hj => by
    obtain ⟨hj1, hj2⟩ := List.getElem?_eq_some_iff.1 hj
    rw [hadd, hc j hj1, hj2]
  rcases hown.2 with ⟨rfl, hn⟩ | ⟨g, cap, cur, rfl, hbg, hg, hnc, hcap, hcs, htk⟩
  · have hx : xs = [] := List.length_eq_zero_iff.1 hn
    subst hx
    obtain ⟨v', w', hr, ho, hgr, _⟩ := run_append_own (P := P) w w.heap.size t ty e i z 1 bytes E.ht h2 h3 h4 h5 E.hz (by decide) (.slice none 0 0) 0 [] (World.ownsRow_nil _ _ _ _) ⟨b, off, none⟩ m c news (by omega) hc' h1 (by unfold maxLen; simp at hlen hle; omega) (by rw [← hm]; simpa using hlen) (Nat.le_refl _)
    refine ⟨v', w', hr, ?_, (Chg.refl _ w).grown hgr fun k hk _ => hk, fun k hk => .inr (own_block ho k hk).1⟩
    rw [hm]; simpa using own_lower ho hbase
  · by_cases hroom : xs.length + m ≤ cap
    · obtain ⟨w', hr, ho, hgr⟩ := run_append_fits (P := P) w base t ty e i 1 E.ht h2 h4 g xs.length cap xs hown ⟨b, off, none⟩ m c news (by omega) hc' h1 hroom
      exact ⟨_, w', hr, by rw [hm]; exact ho, (Chg.refl _ w).grown hgr fun k hk _ => hk, fun k hk => .inl hk⟩
    · obtain ⟨v', w', hr, ho, hgr⟩ := run_append_arg_grows (P := P) w t ty e i z 1 bytes E.ht h2 h3 h4 h5 E.hz (by decide) ⟨g, 0, none⟩ xs.length cap xs (by omega) (fun j u hj => by
          rw [hadd, Nat.zero_add]
          have : cur.toList[j]? = some u := by
            have hjl := (List.getElem?_eq_some_iff.1 hj).1
            have h9 : (cur.toList.take (xs.length * 1))[j]? = xs[j]? := by rw [htk]
            rw [List.getElem?_take, if_pos (by omega)] at h9
            rw [h9]; exact hj
          unfold World.cell?
          simp only [hg, Option.isSome_none]
          rw [← Array.getElem?_toList]; exact this) ⟨b, off, none⟩ m c news (by omega) hc' (by omega) (by unfold maxLen; omega) (by rw [← hm]; exact hlen)
      exact ⟨v', w', hr, by rw [hm]; exact own_lower ho hbase, (Chg.refl _ w).grown hgr (fun k hk _ => by cases hk), fun k hk => .inr (own_block ho k hk).1⟩
theorem oper_app_loc {K : Act → World → Prop} (s x : Operand) (ho : o.op = .call { callee := .builtin .append, args := #[s, x], argTypes := #[t, t] })
    (base : Nat) (v : Value) (xs : List Value) (hs : a.eval s = v) (hown : w.ownsRow base e 1 v xs.length xs) (b off m c : Nat) (news : List Value) (hx : a.eval x = .slice (some ⟨b, off, none⟩) m c) (hm : news.length = m)
    (hc : ∀ j (h : j < news.length), w.cell? ⟨b, off + j, none⟩ = some news[j]) (h1 : ∀ u ∈ news, u.oneCell' = true)
    (hlen : (xs.length + news.length) * bytes ≤ 140737488355328) (hbase : base ≤ w.heap.size)
    (h : ∀ v' w', w'.ownsRow base e 1 v' (xs.length + news.length) (xs ++ news) → Chg (fun k => v.ownBlock = some k) w w' → Loc v w.heap.size v' → K (a.put o.dst v') w') : Oper.wp P o a w K Q := by
  obtain ⟨v', w', hr, h2, h3, h4⟩ := run_app_loc E (w := w) o.type base v xs hown b off m c news hm hc h1 hlen hbase
  unfold Oper.wp
  simp [execOp, ho, resolve, invoke, builtin, hs, hx, hr, Result.andThen]
  exact h v' w' h2 h3 h4
theorem wp_app1_loc (hgd : o.guard = none) (s x : Operand) (ho : o.op = .call { callee := .builtin .append, args := #[s, x], argTypes := #[t, t] })
    (base : Nat) (v : Value) (xs : List Value) (hs : a.eval s = v) (hown : w.ownsRow base e 1 v xs.length xs) (b : Nat) (u : Value) (hx : a.eval x = .slice (some ⟨b, 0, none⟩) 1 1)
    (hc : w.cell? ⟨b, 0, none⟩ = some u) (h1 : u.oneCell' = true)
    (hlen : (xs.length + 1) * bytes ≤ 140737488355328) (hbase : base ≤ w.heap.size)
    (h : ∀ v' w', w'.ownsRow base e 1 v' (xs.length + 1) (xs ++ [u]) → Chg (fun k => v.ownBlock = some k) w w' → Loc v w.heap.size v' → wpList P ops Q rest (a.put o.dst v') w') : wpList P ops Q (o :: rest) a w :=
  wpList_plain hgd fun _ hK => oper_app_loc E s x ho base v xs hs hown b 0 1 1 [u] hx rfl (fun j hj => by
    have : j = 0 := by simp only [List.length_cons, List.length_nil] at hj; omega
    subst this; exact hc) (fun y hy => by rw [List.mem_singleton.1 hy]; exact h1) hlen hbase fun v' w' h2 h3 h4 => hK _ _ (h v' w' h2 h3 h4)
end
end Go.Proofs.Yteandjophamipaa
