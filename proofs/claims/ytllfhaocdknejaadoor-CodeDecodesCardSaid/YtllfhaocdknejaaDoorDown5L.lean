/- What a column's step does, number by number; rows that change places. No program in sight but its types. -/
import Derived.Test.YtllfhaocdknejaaDoorLies5
import Derived.Test.YtllfhaocdknejaaDoorCopy5
import Derived.Test.YtllfhaocdknejaaDoorMay5
namespace Go.Proofs.YtllfhaocdknejaaDoor
open Go.RowKit
theorem ri_inj {d a i k : Nat} (h : d ≤ a) (e : LA.ri d a i = LA.ri d a k) : i = k := by
  unfold LA.ri at e
  split at e <;> split at e <;> (try split at e) <;> (try split at e) <;> (try split at e) <;> (try split at e) <;> omega
theorem ri_self (d i : Nat) : LA.ri d d i = i := by
  unfold LA.ri; split <;> (try split) <;> (try split) <;> omega
theorem step_at {s : LA.Mat × Nat} {c n a : Nat} (hr : LA.Rect s.1 n) (f : LA.Found s c a) (hd : s.2 ≤ s.1.length) {i j : Nat} (hi : i < s.1.length) :
    LA.at_ (LA.step c s).1 i j = (if i = s.2 then LA.mul (LA.at_ s.1 a j) (LA.inv (LA.at_ s.1 a c)) else LA.at_ s.1 (LA.ri s.2 a i) j ^^^ LA.mul (LA.mul (LA.at_ s.1 a j) (LA.inv (LA.at_ s.1 a c))) (LA.at_ s.1 (LA.ri s.2 a i) c)) := by
  rcases LA.step_cases s c hd with ⟨a', f', e⟩ | ⟨h0, _⟩
  · have ha : a' = a := by
      rcases Nat.lt_trichotomy a a' with h | h | h
      · exact absurd (f'.first a f.lo h) f.ne
      · exact h.symm
      · exact absurd (f.first a' f'.lo h) f'.ne
    subst ha
    rw [e]
    have hp : (LA.scale (LA.inv (LA.at_ s.1 a' c)) (s.1.getD a' [])).length = n := by rw [LA.scale_length]; exact LA.rect_row hr f.hi
    show (List.getD (LA.tab _ _) i []).getD j 0 = _
    rw [LA.tab_row, if_pos hi]
    split
    · exact LA.scale_at _ _ _
    · rw [LA.plus_at (by rw [hp]; exact LA.rect_row hr (LA.ri_lt f.lo f.hi hi)), LA.scale_at]; rfl
  · exact absurd (h0 a f.lo) f.ne
theorem step_done1 {s : LA.Mat × Nat} {c a : Nat} (f : LA.Found s c a) (hd : s.2 ≤ s.1.length) : (LA.step c s).2 = s.2 + 1 := by
  rcases LA.step_cases s c hd with ⟨a', f', e⟩ | ⟨h0, _⟩
  · rw [e]
  · exact absurd (h0 a f.lo) f.ne
theorem step_none {s : LA.Mat × Nat} {c : Nat} (hd : s.2 ≤ s.1.length) (h : ∀ i, s.2 ≤ i → i < s.1.length → LA.at_ s.1 i c = 0) : LA.step c s = s := by
  rcases LA.step_cases s c hd with ⟨a', f', e⟩ | ⟨_, e⟩
  · exact absurd (h a' f'.lo f'.hi) f'.ne
  · exact e
theorem dn_rect {m : LA.Mat} {n : Nat} (h : LA.Rect m n) (c : Nat) : LA.Rect (LA.dn m c).1 n := by obtain ⟨_, e⟩ := LA.dn_ech h c; exact e.rect
theorem may_rect {t : Nat} {m : LA.Mat} (h : mayB t m = true) : LA.Rect m (m.headD []).length := (mayB_iff.1 h).2.2.2.2

section
variable {B g cap L n : Nat} {F : Nat → Nat → UInt8} {ρ κ : Nat → Nat} {w w2 : World}
theorem Lies.placed (l : Lies B w.heap g cap L n F ρ κ) (σ : Nat → Nat) (hs : ∀ i, i < L → σ i < L) (hi : ∀ i k, i < L → k < L → σ i = σ k → i = k) (c : Chg (fun b => b = g) w w2) (cur2 : List Value)
    (h1 : w2.heap[g]? = some (.cells cur2.toArray 39 (0, 0))) (h2 : cur2.length = cap) (h3 : ∀ i, i < L → cur2[i]? = some (.slice (some ⟨ρ (σ i), 0, none⟩) n (κ (σ i)))) :
    Lies B w2.heap g cap L n (fun i => F (σ i)) (fun i => ρ (σ i)) (fun i => κ (σ i)) :=
  ⟨l.1, ⟨cur2, h1, h2, h3⟩, fun i hiL => ⟨(l.2.2.1 _ (hs i hiL)).1, (l.row (hs i hiL)).chg c (l.ne (hs i hiL))⟩, fun i k hiL hk e => hi i k hiL hk (l.inj (hs i hiL) (hs k hk) e), fun i hiL => l.room (hs i hiL)⟩
/-- Row a goes up to place d. -/
theorem Lies.rotate (l : Lies B w.heap g cap L n F ρ κ) {d a : Nat} (hda : d ≤ a) (ha : a < L) (cur : List Value) (hc : w.heap[g]? = some (.cells cur.toArray 39 (0, 0))) (hl : cur.length = cap)
    (hcur : ∀ i, i < L → cur[i]? = some (.slice (some ⟨ρ i, 0, none⟩) n (κ i))) :
    Lies B ((w.setRow g (cur.take (d + 1) ++ ((cur.drop d).take (a - d) ++ cur.drop (d + 1 + (a - d)))).toArray).setCell ⟨g, d, none⟩ (.slice (some ⟨ρ a, 0, none⟩) n (κ a))).heap g cap L n (fun i => F (LA.ri d a i)) (fun i => ρ (LA.ri d a i)) (fun i => κ (LA.ri d a i)) := by
  have hcap := l.le
  have hw := setRow_heap w g cur.toArray (cur.take (d + 1) ++ ((cur.drop d).take (a - d) ++ cur.drop (d + 1 + (a - d)))).toArray 39 (0, 0) hc
  refine l.placed (LA.ri d a) (fun i hi => LA.ri_lt hda ha hi) (fun i k _ _ e => ri_inj hda e) (Chg.setCell (p := ⟨g, d, none⟩) (T := fun b => b = g) (setRow_chg w g _) (fun _ => rfl) _)
    ((cur.take (d + 1) ++ ((cur.drop d).take (a - d) ++ cur.drop (d + 1 + (a - d)))).set d (.slice (some ⟨ρ a, 0, none⟩) n (κ a))) ?_ ?_ ?_
  · unfold World.setCell
    simp only [Array.getElem?_modify, hw]
    simp
  · simp; omega
  · intro i hi
    have hX : ∀ q, q < L → (cur.take (d + 1) ++ ((cur.drop d).take (a - d) ++ cur.drop (d + 1 + (a - d))))[q]? = cur[if q ≤ d then q else if q ≤ a then q - 1 else q]? := by
      intro q hq
      have l1 : (cur.take (d + 1)).length = d + 1 := by simp; omega
      have l2 : ((cur.drop d).take (a - d)).length = a - d := by simp; omega
      by_cases q1 : q ≤ d
      · rw [if_pos q1, List.getElem?_append_left (by omega), List.getElem?_take, if_pos (by omega)]
      · rw [if_neg q1, List.getElem?_append_right (by omega), l1]
        by_cases q2 : q ≤ a
        · rw [if_pos q2, List.getElem?_append_left (by omega), List.getElem?_take, if_pos (by omega), List.getElem?_drop]
          congr 1; omega
        · rw [if_neg q2, List.getElem?_append_right (by omega), l2, List.getElem?_drop]
          congr 1; omega
    rw [List.getElem?_set]
    by_cases e : d = i
    · subst e
      rw [if_pos rfl]
      have : LA.ri d a d = a := by unfold LA.ri; rw [if_neg (by omega), if_pos rfl]
      rw [this]
      simp; omega
    · rw [if_neg e, hX i hi, ← hcur _ (LA.ri_lt hda ha hi)]
      congr 1
      unfold LA.ri
      split <;> (try split) <;> (try split) <;> (try split) <;> omega
/-- It stays where it is. -/
theorem Lies.stay (l : Lies B w.heap g cap L n F ρ κ) {d : Nat} (hd : d < L) :
    Lies B (w.setCell ⟨g, d, none⟩ (.slice (some ⟨ρ d, 0, none⟩) n (κ d))).heap g cap L n (fun i => F (LA.ri d d i)) (fun i => ρ (LA.ri d d i)) (fun i => κ (LA.ri d d i)) := by
  obtain ⟨cur2, h1, h2, h3⟩ := l.put (i := d) (k := d) hd
  refine l.placed (LA.ri d d) (fun i hi => by rw [ri_self]; exact hi) (fun i k _ _ e => by rw [ri_self, ri_self] at e; exact e) (Chg.setCell (T := fun b => b = g) (Chg.refl _ w) (fun _ => rfl) _) cur2 h1 h2 fun i hi => ?_
  rw [h3 i hi, ri_self]
  by_cases e : i = d
  · subst e; simp
  · rw [if_neg e]
end
/-- copy(m[lo+1:a+1], m[lo:a]) where m's rows' places lie in block g. -/
theorem wp_copy_up {w : World} {ops : Array Oper} {rest : List Oper} {o : Oper} {a : Act} {Q : Exit → Act → World → Prop} (hgd : o.guard = none) (d s : Operand)
    (ho : o.op = .call { callee := .builtin .copy, args := #[d, s], argTypes := #[48, 48] }) (g : Nat) (cur : List Value) (hg : w.heap[g]? = some (.cells cur.toArray 39 (0, 0))) (lo A : Nat) (hle : lo ≤ A) (hA : A < cur.length)
    (p1 p2 : Option Addr) (q1 q2 : Nat) (hd : a.eval d = .slice p1 (A - lo) q1) (hs : a.eval s = .slice p2 (A - lo) q2) (hp1 : lo < A → p1 = some ⟨g, lo + 1, none⟩) (hp2 : lo < A → p2 = some ⟨g, lo, none⟩)
    (h1 : ∀ i u, i < A → cur[i]? = some u → u.oneCell' = true)
    (h : ∀ i : Int, wpList Tryd.prog ops Q rest (a.put o.dst (.int .i64 i)) (w.setRow g (cur.take (lo + 1) ++ ((cur.drop lo).take (A - lo) ++ cur.drop (lo + 1 + (A - lo)))).toArray)) : wpList Tryd.prog ops Q (o :: rest) a w := by
  by_cases e : lo = A
  · subst e
    refine wpList_copy_nothing hgd d s 48 48 ho 39 Tryd.underlying48 (by kernel_rfl) p1 p2 (lo - lo) q1 (lo - lo) q2 hd hs (by simp) ?_
    have hX : cur.take (lo + 1) ++ ((cur.drop lo).take (lo - lo) ++ cur.drop (lo + 1 + (lo - lo))) = cur := by simp
    have := h 0
    rw [hX, setRow_self w g cur.toArray 39 (0, 0) hg] at this
    exact this
  · have hlt : lo < A := by omega
    rw [hp1 hlt] at hd
    rw [hp2 hlt] at hs
    have hl : ((cur.drop lo).take (A - lo)).length = A - lo := by simp; omega
    refine wpList_copy_own hgd d s 48 48 ho 39 Tryd.underlying48 (by kernel_rfl) g (lo + 1) (A - lo) q1 ⟨g, lo, none⟩ (A - lo) q2 hd hs cur.toArray 39 hg ((cur.drop lo).take (A - lo)) (by rw [hl]; simp) ?_ (by rw [hl]; simp; omega) ?_ ?_
    · intro j u hj
      have hj1 : j < A - lo := by have := (List.getElem?_eq_some_iff.1 hj).1; omega
      rw [List.getElem?_take, if_pos hj1, List.getElem?_drop] at hj
      have hadd : (⟨g, lo, none⟩ : Addr).add j = ⟨g, lo + j, none⟩ := by unfold Addr.add; split <;> simp_all
      rw [hadd, cell_of_row w g (lo + j) cur.toArray 39 (0, 0) hg]
      simpa using hj
    · intro u hu
      obtain ⟨j, hj⟩ := List.mem_iff_getElem?.1 hu
      have hj1 : j < A - lo := by have := (List.getElem?_eq_some_iff.1 hj).1; omega
      rw [List.getElem?_take, if_pos hj1, List.getElem?_drop] at hj
      exact h1 (lo + j) u (by omega) hj
    · rw [hl]
      exact h _
theorem cut_rows (g L cap lo hi : Nat) (l h : Int) (el : l = (lo : Int)) (eh : h = (hi : Int)) (h1 : lo ≤ hi) (h2 : hi ≤ cap) :
    ∃ p q, (∀ w, (Instr.slice 48 (.slice (some ⟨g, 0, none⟩) L cap) (some (.int .i64 l)) (some (.int .i64 h)) none).run Tryd.prog w = .ok (.slice p (hi - lo) q) w) ∧ (lo < hi → p = some ⟨g, lo, none⟩) := by
  subst el eh
  refine ⟨if cap = lo then some ⟨g, 0, none⟩ else (some (⟨g, 0, none⟩ : Addr)).map (·.add (lo * 1)), cap - lo, fun w => ?_, ?_⟩
  · rw [run_slice_lh (P := Tryd.prog) w 48 (some ⟨g, 0, none⟩) L cap (by kernel_rfl) .i64 .i64 lo hi (by omega) (by omega) (by omega)]
    have hs : (sizeOf (Tryd.prog.elem 48)).run Tryd.prog w = .ok 1 w := by kernel_rfl
    rw [hs]
    simp only [Result.andThen, sliced, Int.toNat_natCast]
  · intro hlt
    rw [if_neg (by omega)]
    simp [Addr.add]
    omega
end Go.Proofs.YtllfhaocdknejaaDoor
