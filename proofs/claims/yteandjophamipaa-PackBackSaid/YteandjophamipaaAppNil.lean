/- append of a row that may be empty, as a step of a drawn region. -/
import Derived.Test.YteandjophamipaaStep
import Derived.Test.YteandjophamipaaText
namespace Go.Proofs.Yteandjophamipaa
open Go.RowKit
section
variable {P : Program} {w : World}
theorem run_appnil (base : Nat) (t ty e : TypeId) (i : TypeInfo) (ht : P.underlying t = some (.slice e)) (hi : P.info? e = some i)
    (v : Value) (n : Nat) (xs : List Value) (hown : w.ownsRow base e 1 v n xs) (p : Option Addr) (c : Nat) :
    (Builtin.append_ #[t, t] ty #[v, .slice p 0 c]).run P w = .ok v w := by
  rcases hown.2 with ⟨rfl, rfl⟩ | ⟨g, cap, cur, rfl, _, _, hnc, _⟩
  · cases p <;> simp [Builtin.append_, run_underlying ht, sizeOf, typeInfo, hi, Builtin.lenOf, Builtin.firstCells, loadCells, loadCellsFrom]
  · cases p <;> simp [Builtin.append_, run_underlying ht, sizeOf, typeInfo, hi, Builtin.lenOf, Builtin.firstCells, hnc, storeCells, loadCells, loadCellsFrom]
end
section
variable {P : Program} {t e : TypeId} {z : Value} {bytes : Nat} (E : ElemTy P t e z bytes) {w : World} {o : Oper} {a : Act} {Q : Exit → Act → World → Prop} {K : Act → World → Prop}
include E
theorem oper_apps (hgd : o.guard = none) (s x : Operand) (ho : o.op = .call { callee := .builtin .append, args := #[s, x], argTypes := #[t, t] })
    (base : Nat) (v : Value) (xs : List Value) (hs : a.eval s = v) (hown : w.ownsRow base e 1 v xs.length xs) (b off m c : Nat) (news : List Value) (hx : a.eval x = .slice (some ⟨b, off, none⟩) m c) (hm : news.length = m)
    (hc : ∀ j (h : j < news.length), w.cell? ⟨b, off + j, none⟩ = some news[j]) (h1 : ∀ u ∈ news, u.oneCell' = true)
    (hlen : (xs.length + news.length) * bytes ≤ 140737488355328) (hbase : base ≤ w.heap.size)
    (h : ∀ v' w', w'.ownsRow base e 1 v' (xs.length + news.length) (xs ++ news) → Chg (fun k => v.ownBlock = some k) w w' → K (a.put o.dst v') w') : Oper.wp P o a w K Q := by
  rcases Nat.eq_zero_or_pos m with h0 | h0
  · subst h0
    have hn : news = [] := List.eq_nil_of_length_eq_zero hm
    subst hn
    obtain ⟨i, h2, h3, h4, h5⟩ := info_parts E.hi
    have hrun := run_appnil (P := P) (w := w) base t o.type e i E.ht h2 v xs.length xs hown (some ⟨b, off, none⟩) c
    unfold Oper.wp
    simp [execOp, ho, resolve, invoke, builtin, hs, hx, hrun, Result.andThen]
    exact h v w (by simpa using hown) (Chg.refl _ w)
  · have := step_apps (K := K) (Q := Q) (ops := #[]) (E' := True) E hgd s x ho base v xs hs hown b off m c news hx hm h0 hc h1 hlen hbase h
    have hw : Region.wanted o (yielded #[] a.tmps) = true := by unfold Region.wanted; rw [hgd]
    rwa [if_pos hw] at this
end
end Go.Proofs.Yteandjophamipaa
