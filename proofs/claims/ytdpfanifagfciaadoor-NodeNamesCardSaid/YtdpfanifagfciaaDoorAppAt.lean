/- append onto a row whose room is used up, of a row that may be empty: an operation's law. No program in sight. -/
import Derived.Test.YtdpfanifagfciaaDoorStep
import Derived.Test.YtdpfanifagfciaaDoorText
import Derived.Deep.RegionLawGrows
namespace Go.Proofs.YtdpfanifagfciaaDoor
open Go.RowKit
/-- The cells of a row. -/
def valsH (h : Array Obj) (b off n : Nat) : List Value := (List.range n).map fun i => (cellH h b (off + i)).getD undef
theorem valsH_length (h : Array Obj) (b off n : Nat) : (valsH h b off n).length = n := by unfold valsH; simp
theorem valsH_at {α : Type} {R : Value → α → Prop} {w : World} {b off n c : Nat} {l : List α} (s : SeqAt R w.heap (.slice (some ⟨b, off, none⟩) n c) l) {i : Nat} (hi : i < l.length) (h' : i < (valsH w.heap b off l.length).length) :
    w.cell? ⟨b, off + i, none⟩ = some (valsH w.heap b off l.length)[i] ∧ R (valsH w.heap b off l.length)[i] l[i] := by
  obtain ⟨u, h1, h2⟩ := seq_at s hi
  have e : (valsH w.heap b off l.length)[i] = u := by
    have e2 : (valsH w.heap b off l.length)[i]? = some u := by
      unfold valsH
      rw [cell_of] at h1
      rw [List.getElem?_map, List.getElem?_range hi, Option.map_some, h1]; rfl
    rw [List.getElem?_eq_getElem h'] at e2
    exact Option.some.inj e2
  rw [e]; exact ⟨h1, h2⟩
/-- No slice is longer than its room. -/
def CapOk (v : Value) : Prop := ∀ a n q, v = .slice a n q → n ≤ q
theorem capOk_mk {p : Option Addr} {n q : Nat} (h : n ≤ q) : CapOk (.slice p n q) := fun a m r e => by cases e; exact h
theorem own_cap {w : World} {base : Nat} {E : TypeId} {v : Value} {n : Nat} {us : List Value} (h : w.ownsRow base E 1 v n us) : CapOk v := by
  rcases h.2 with ⟨rfl, hn⟩ | ⟨g, cap, cur, rfl, _, _, hnc, _⟩
  · exact capOk_mk (Nat.le_refl _)
  · exact capOk_mk hnc
/-- It is that one, or lies in a block of elements e. -/
def From (ao : Option Addr) (n0 : Nat) (e : TypeId) (h : Array Obj) (v : Value) : Prop := v = .slice ao n0 n0 ∨ ∀ p n q, v = .slice (some p) n q → typH h p.block = some e
theorem own_from {w : World} {base : Nat} {E : TypeId} {v : Value} {n : Nat} {us : List Value} (ao : Option Addr) (n0 : Nat) (h : w.ownsRow base E 1 v n us) : From ao n0 E w.heap v := by
  rcases h.2 with ⟨rfl, hn⟩ | ⟨g, cap, cur, rfl, hb, hg, _⟩
  · exact .inr fun p n q e => by cases e
  · exact .inr fun p n q e => by cases e; exact typH_of hg
/-- A row that lies in a block of elements E. -/
def SeqTy {α : Type} (E : TypeId) (R : Value → α → Prop) (h : Array Obj) (v : Value) (l : List α) : Prop := SeqAt R h v l ∧ ∀ p n q, v = .slice (some p) n q → 0 < n → typH h p.block = some E
theorem SeqTy.chg {α : Type} {E : TypeId} {T : Nat → Prop} {R : Value → α → Prop} {w w' : World} {v : Value} {l : List α} (s : SeqTy E R w.heap v l) (k : Chg T w w') (hT : ∀ b, T b → typH w.heap b ≠ some E) : SeqTy E R w'.heap v l := by
  obtain ⟨⟨a, c, rfl, hl, hel⟩, hb⟩ := s
  refine ⟨⟨a, c, rfl, hl, fun i hi => ?_⟩, fun p n q e hn => typH_chg k (hb p n q e hn) fun ht => hT _ ht (hb p n q e hn)⟩
  obtain ⟨x, off, u, rfl, h1, h2⟩ := hel i hi
  have h3 := hb _ _ _ rfl (by omega)
  exact ⟨x, off, u, rfl, cellH_chg k h1 fun ht => hT _ ht h3, h2⟩
theorem SeqTy.keeps {α : Type} {E : TypeId} {R : Value → α → Prop} {w w' : World} {v : Value} {l : List α} (s : SeqTy E R w.heap v l) (k : Keeps w w') : SeqTy E R w'.heap v l := s.chg (T := fun _ => False) (Kept.any k) fun _ x => x.elim
theorem SeqTy.new {α : Type} {E : TypeId} {R : Value → α → Prop} {h : Array Obj} {v : Value} {l : List α} (s : SeqAt R h v l) {ao : Option Addr} {n0 : Nat} (f : From ao n0 E h v) (ha : 0 < n0 → ∀ p, ao = some p → typH h p.block = some E) : SeqTy E R h v l :=
  ⟨s, fun p n q e hn => by
    rcases f with e' | f
    · rw [e] at e'
      injection e' with e1 e2 _
      exact ha (by omega) p e1.symm
    · exact f p n q e⟩
theorem SeqIn.ty {α : Type} {S : Nat → Prop} {E : TypeId} {R : Value → α → Prop} {h : Array Obj} {v : Value} {l : List α} (s : SeqIn S E R h v l) : SeqTy E R h v l :=
  ⟨SeqIn.at_ s, fun p n q e hn => by
    obtain ⟨a, cap, e', hl, hel⟩ := s
    rw [e] at e'
    injection e' with e1 e2 _
    obtain ⟨b, off, u, e3, ⟨_, h4⟩, _⟩ := hel 0 (by omega)
    rw [e3] at e1
    injection e1 with e1
    rw [e1]; exact h4⟩
section
variable {P : Program} {w : World}
theorem run_appnone (t ty e : TypeId) (i : TypeInfo) (ht : P.underlying t = some (.slice e)) (hi : P.info? e = some i) (ao : Option Addr) (n q : Nat) (hq : n ≤ q) (h0 : ao = none → n = 0 ∧ q = 0) (p : Option Addr) (c : Nat) :
    (Builtin.append_ #[t, t] ty #[.slice ao n q, .slice p 0 c]).run P w = .ok (.slice ao n q) w := by
  cases ao with
  | none =>
    obtain ⟨rfl, rfl⟩ := h0 rfl
    cases p <;> simp [Builtin.append_, run_underlying ht, sizeOf, typeInfo, hi, Builtin.lenOf, Builtin.firstCells, loadCells, loadCellsFrom]
  | some g => cases p <;> simp [Builtin.append_, run_underlying ht, sizeOf, typeInfo, hi, Builtin.lenOf, Builtin.firstCells, hq, storeCells, loadCells, loadCellsFrom]
end
section
variable {P : Program} {t e : TypeId} {z : Value} {bytes : Nat} (E : ElemTy P t e z bytes) {w : World} {o : Oper} {a : Act} {Q : Exit → Act → World → Prop} {K : Act → World → Prop}
include E
theorem oper_app_at {α : Type} {R : Value → α → Prop} (hR1 : ∀ u x, R u x → u.oneCell' = true) {l m : List α} (hgd : o.guard = none) (s x : Operand) (ho : o.op = .call { callee := .builtin .append, args := #[s, x], argTypes := #[t, t] })
    (ao : Option Addr) (hs : a.eval s = .slice ao l.length l.length) (hl : SeqAt R w.heap (.slice ao l.length l.length) l) (vx : Value) (hx : a.eval x = vx) (hm : SeqAt R w.heap vx m)
    (hlen : (l.length + m.length) * bytes ≤ 140737488355328)
    (h : ∀ v' w', SeqAt R w'.heap v' (l ++ m) → CapOk v' → From ao l.length e w'.heap v' → Keeps w w' → K (a.put o.dst v') w') : Oper.wp P o a w K Q := by
  obtain ⟨i, h2, h3, h4, h5⟩ := info_parts E.hi
  have hb := E.hb
  have hle : l.length + m.length ≤ (l.length + m.length) * bytes := Nat.le_mul_of_pos_right _ hb
  have hl63 : l.length + m.length ≤ 9223372036854775807 := by omega
  have hm63 : 0 + m.length ≤ 9223372036854775807 := by omega
  have hno : ao = none → l = [] := fun e0 => by
    rcases Nat.eq_zero_or_pos l.length with h0 | h0
    · exact List.length_eq_zero_iff.1 h0
    · obtain ⟨b, off, c, u, e1, _⟩ := seq_cell hl h0
      injection e1 with e1; rw [e0] at e1; cases e1
  rcases Nat.eq_zero_or_pos m.length with h0 | h0
  · have hm0 : m = [] := List.length_eq_zero_iff.1 h0
    subst hm0
    obtain ⟨p, c, e0⟩ := seq_shape hm
    have e1 : vx = .slice p 0 c := e0
    subst e1
    have hrun := run_appnone (P := P) (w := w) t o.type e i E.ht h2 ao l.length l.length (Nat.le_refl _) (fun e0 => by rw [hno e0]; exact ⟨rfl, rfl⟩) p c
    unfold Oper.wp
    simp [execOp, ho, resolve, invoke, builtin, hs, hx, hrun, Result.andThen]
    exact h _ w (by simpa using hl) (capOk_mk (Nat.le_refl _)) (.inl rfl) (keeps_refl w)
  · obtain ⟨bx, ox, cx, ux, rfl, _⟩ := seq_cell hm h0
    have hw : Region.wanted o (yielded #[] a.tmps) = true := by simp [Region.wanted, hgd]
    have hadd : ∀ (b off j : Nat), (⟨b, off, none⟩ : Addr).add j = ⟨b, off + j, none⟩ := fun b off j => by unfold Addr.add; split <;> simp_all
    have fin : ∀ (olds : List Value), olds.length = l.length → (∀ i (h1 : i < olds.length) (h2 : i < l.length), R olds[i] l[i]) → ∀ v' w', w'.ownsRow w.heap.size e 1 v' (l.length + m.length) (olds ++ valsH w.heap bx ox m.length) → w.grownBy w' none → K (a.put o.dst v') w' := by
      intro olds hol hor v' w' hown hgr
      have hO : OwnSeq w.heap.size e R w' v' (l ++ m) := by
        refine ⟨olds ++ valsH w.heap bx ox m.length, by rw [List.length_append, hol, valsH_length]; exact hown, by rw [List.length_append, List.length_append, hol, valsH_length], fun j hj hj' => ?_⟩
        by_cases e0 : j < l.length
        · rw [List.getElem_append_left (by omega), List.getElem_append_left e0]; exact hor j (by omega) e0
        · have hjm : j - l.length < m.length := by rw [List.length_append] at hj'; omega
          rw [List.getElem_append_right (by omega), List.getElem_append_right (by omega)]
          have h9 := (valsH_at hm hjm (by rw [valsH_length]; exact hjm)).2
          simp only [hol]
          exact h9
      exact h v' w' (SeqIn.at_ (hO.seq (by rw [List.length_append]; omega))) (own_cap hown) (own_from ao _ hown) (((Chg.refl (fun _ => False) w).grown hgr fun k hk _ => by cases hk).keeps fun _ _ x => x)
    cases ao with
    | none =>
      have := hno rfl
      subst this
      have := step_append_grows (K := K) (Q := Q) (E := True) (P := P) (ops := #[]) (w := w) hgd s x t ho e i z 1 bytes E.ht h2 h3 h4 h5 E.hz (by decide) none 0 0 [] hs (fun _ => ⟨rfl, rfl⟩) rfl (fun b hb => by cases hb) ⟨bx, ox, none⟩ m.length cx (valsH w.heap bx ox m.length) hx (by rw [valsH_length]; omega)
        (fun j u hj => by
          obtain ⟨hj1, hj2⟩ := List.getElem?_eq_some_iff.1 hj
          rw [hadd, (valsH_at hm (by rwa [valsH_length] at hj1) hj1).1, hj2])
        (fun u hu => by
          obtain ⟨j, hj, rfl⟩ := List.getElem_of_mem hu
          exact hR1 _ _ (valsH_at hm (by rwa [valsH_length] at hj) hj).2)
        (by omega) (by unfold maxLen; omega) (by simpa using hlen) (fun v' w' h6 h7 => fin [] rfl (fun i h1 => absurd h1 (by simp)) v' w' h6 h7)
      rwa [if_pos hw] at this
    | some g =>
      rcases Nat.eq_zero_or_pos l.length with hl0 | hl0
      · have : l = [] := List.length_eq_zero_iff.1 hl0
        subst this
        have := step_append_grows (K := K) (Q := Q) (E := True) (P := P) (ops := #[]) (w := w) hgd s x t ho e i z 1 bytes E.ht h2 h3 h4 h5 E.hz (by decide) (some g) 0 0 [] hs (fun e0 => by cases e0) rfl (fun b _ j u hj => by simp at hj) ⟨bx, ox, none⟩ m.length cx (valsH w.heap bx ox m.length) hx (by rw [valsH_length]; omega)
          (fun j u hj => by
            obtain ⟨hj1, hj2⟩ := List.getElem?_eq_some_iff.1 hj
            rw [hadd, (valsH_at hm (by rwa [valsH_length] at hj1) hj1).1, hj2])
          (fun u hu => by
            obtain ⟨j, hj, rfl⟩ := List.getElem_of_mem hu
            exact hR1 _ _ (valsH_at hm (by rwa [valsH_length] at hj) hj).2)
          (by omega) (by unfold maxLen; omega) (by simpa using hlen) (fun v' w' h6 h7 => fin [] rfl (fun i h1 => absurd h1 (by simp)) v' w' h6 h7)
        rwa [if_pos hw] at this
      · obtain ⟨bl, ol, cl, ul, e0, _⟩ := seq_cell hl hl0
        injection e0 with e0 _ _
        injection e0 with e0
        subst e0
        have := step_append_grows (K := K) (Q := Q) (E := True) (P := P) (ops := #[]) (w := w) hgd s x t ho e i z 1 bytes E.ht h2 h3 h4 h5 E.hz (by decide) (some ⟨bl, ol, none⟩) l.length l.length (valsH w.heap bl ol l.length) hs (fun e0 => by cases e0) (by rw [valsH_length]; omega)
          (fun b hb j u hj => by
            cases hb
            obtain ⟨hj1, hj2⟩ := List.getElem?_eq_some_iff.1 hj
            rw [hadd, (valsH_at hl (by rwa [valsH_length] at hj1) hj1).1, hj2])
          ⟨bx, ox, none⟩ m.length cx (valsH w.heap bx ox m.length) hx (by rw [valsH_length]; omega)
          (fun j u hj => by
            obtain ⟨hj1, hj2⟩ := List.getElem?_eq_some_iff.1 hj
            rw [hadd, (valsH_at hm (by rwa [valsH_length] at hj1) hj1).1, hj2])
          (fun u hu => by
            obtain ⟨j, hj, rfl⟩ := List.getElem_of_mem hu
            exact hR1 _ _ (valsH_at hm (by rwa [valsH_length] at hj) hj).2)
          (by omega) (by unfold maxLen; omega) hlen (fun v' w' h6 h7 => fin _ (valsH_length _ _ _ _) (fun i h1 h2 => (valsH_at hl h2 h1).2) v' w' h6 h7)
        rwa [if_pos hw] at this
theorem step_app_at {α : Type} {R : Value → α → Prop} (hR1 : ∀ u x, R u x → u.oneCell' = true) {l m : List α} {ops : Array Oper} {E' : Prop} (hgd : o.guard = none) (s x : Operand) (ho : o.op = .call { callee := .builtin .append, args := #[s, x], argTypes := #[t, t] })
    (ao : Option Addr) (hs : a.eval s = .slice ao l.length l.length) (hl : SeqAt R w.heap (.slice ao l.length l.length) l) (vx : Value) (hx : a.eval x = vx) (hm : SeqAt R w.heap vx m)
    (hlen : (l.length + m.length) * bytes ≤ 140737488355328)
    (h : ∀ v' w', SeqAt R w'.heap v' (l ++ m) → CapOk v' → From ao l.length e w'.heap v' → Keeps w w' → K (a.put o.dst v') w') : if Region.wanted o (yielded ops a.tmps) = true then Oper.wp P o a w K Q else E' := by
  rw [if_pos (by simp [Region.wanted, hgd])]
  exact oper_app_at E hR1 hgd s x ho ao hs hl vx hx hm hlen h
end
end Go.Proofs.YtdpfanifagfciaaDoor
