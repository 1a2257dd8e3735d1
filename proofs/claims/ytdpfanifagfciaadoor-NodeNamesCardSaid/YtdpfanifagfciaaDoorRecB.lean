/- Slices of records of several cells: what they read as; rows of records that a call makes by append. No program in sight. -/
import Derived.Test.YtdpfanifagfciaaDoorStep
import Derived.Test.YtdpfanifagfciaaDoorText
namespace Go.Proofs.YtdpfanifagfciaaDoor
open Go.RowKit

/-- A slice of records of k cells each that reads as a list: record i's cells are in relation R to the list's element. -/
def RecAt {α : Type} (k : Nat) (R : List Value → α → Prop) (h : Array Obj) (v : Value) (l : List α) : Prop :=
  ∃ a cap, v = .slice a l.length cap ∧ l.length ≤ 9223372036854775807 ∧
    ∀ i (hi : i < l.length), ∃ b off us, a = some ⟨b, off, none⟩ ∧ us.length = k ∧ (∀ j (hj : j < us.length), cellH h b (off + i * k + j) = some us[j]) ∧ R us l[i]
/-- The same in blocks of S, of element type E, that may be written. -/
def RecIn {α : Type} (S : Nat → Prop) (E : TypeId) (k : Nat) (R : List Value → α → Prop) (h : Array Obj) (v : Value) (l : List α) : Prop :=
  ∃ a cap, v = .slice a l.length cap ∧ l.length ≤ 9223372036854775807 ∧
    ∀ i (hi : i < l.length), ∃ b off us, a = some ⟨b, off, none⟩ ∧ (S b ∧ typH h b = some E) ∧ us.length = k ∧ (∀ j (hj : j < us.length), frozH h b (off + i * k + j) = false ∧ cellH h b (off + i * k + j) = some us[j]) ∧ R us l[i]
section
variable {α : Type} {k : Nat} {S S' T : Nat → Prop} {E : TypeId} {R R' : List Value → α → Prop} {h h' : Array Obj} {v : Value} {l : List α}
theorem RecIn.at_ (s : RecIn S E k R h v l) : RecAt k R h v l := by
  obtain ⟨a, cap, e, hl, hel⟩ := s
  exact ⟨a, cap, e, hl, fun i hi => let ⟨b, off, us, e1, _, e2, e3, e4⟩ := hel i hi; ⟨b, off, us, e1, e2, fun j hj => (e3 j hj).2, e4⟩⟩
theorem RecAt.imp (s : RecAt k R h v l) (hc : ∀ b i u, cellH h b i = some u → cellH h' b i = some u) (hr : ∀ u x, x ∈ l → R u x → R' u x) : RecAt k R' h' v l := by
  obtain ⟨a, cap, e, hl, hel⟩ := s
  exact ⟨a, cap, e, hl, fun i hi => let ⟨b, off, us, e1, e2, e3, e4⟩ := hel i hi; ⟨b, off, us, e1, e2, fun j hj => hc _ _ _ (e3 j hj), hr _ _ (List.getElem_mem hi) e4⟩⟩
theorem RecAt.keeps {w w' : World} (s : RecAt k R w.heap v l) (c : Keeps w w') : RecAt k R w'.heap v l :=
  s.imp (fun _ _ _ e => cellH_chg (T := fun _ => False) (Kept.any c) e (fun x => x)) fun _ _ _ r => r
theorem RecAt.keepsR {w w' : World} (s : RecAt k R w.heap v l) (c : Keeps w w') (hr : ∀ u x, x ∈ l → R u x → R' u x) : RecAt k R' w'.heap v l :=
  s.imp (fun _ _ _ e => cellH_chg (T := fun _ => False) (Kept.any c) e (fun x => x)) hr
theorem RecIn.chg {w w' : World} (s : RecIn S E k R w.heap v l) (c : Chg T w w') (hst : ∀ b, b < w.heap.size → S b → typH w.heap b = some E → ¬ T b) (hr : ∀ u x, x ∈ l → R u x → R' u x) : RecIn S E k R' w'.heap v l := by
  obtain ⟨a, cap, e, hl, hel⟩ := s
  refine ⟨a, cap, e, hl, fun i hi => ?_⟩
  obtain ⟨b, off, us, e1, ⟨hs, he⟩, e2, e3, e4⟩ := hel i hi
  have hb := typH_lt he
  have hn := hst b hb hs he
  exact ⟨b, off, us, e1, ⟨hs, typH_chg c he hn⟩, e2, fun j hj => ⟨by rw [frozH_chg c hb hn]; exact (e3 j hj).1, cellH_chg c (e3 j hj).2 hn⟩, hr _ _ (List.getElem_mem hi) e4⟩
theorem RecIn.mono (s : RecIn S E k R h v l) (hs : ∀ b, S b → S' b) (hr : ∀ u x, R u x → R' u x) : RecIn S' E k R' h v l := by
  obtain ⟨a, cap, e, hl, hel⟩ := s
  exact ⟨a, cap, e, hl, fun i hi => let ⟨b, off, us, e1, ⟨e0, et⟩, e2, e3, e4⟩ := hel i hi; ⟨b, off, us, e1, ⟨hs b e0, et⟩, e2, e3, hr _ _ e4⟩⟩
theorem RecIn.bound (s : RecIn S E k R h v l) (hr : ∀ u x, x ∈ l → R u x → R' u x) : RecIn (fun b => S b ∧ b < h.size) E k R' h v l := by
  obtain ⟨a, cap, e, hl, hel⟩ := s
  exact ⟨a, cap, e, hl, fun i hi => let ⟨b, off, us, e1, ⟨e0, et⟩, e2, e3, e4⟩ := hel i hi; ⟨b, off, us, e1, ⟨⟨e0, typH_lt et⟩, et⟩, e2, e3, hr _ _ (List.getElem_mem hi) e4⟩⟩
theorem RecAt.nil (k : Nat) (R : List Value → α → Prop) (h : Array Obj) : RecAt k R h (.slice none 0 0) [] := ⟨none, 0, rfl, by simp, fun i hi => absurd hi (by simp)⟩
theorem RecIn.nil (S : Nat → Prop) (E : TypeId) (k : Nat) (R : List Value → α → Prop) (h : Array Obj) : RecIn S E k R h (.slice none 0 0) [] := ⟨none, 0, rfl, by simp, fun i hi => absurd hi (by simp)⟩
theorem rec_shape (s : RecAt k R h v l) : ∃ p q, v = .slice p l.length q := let ⟨a, c, e, _⟩ := s; ⟨a, c, e⟩
theorem rec_cell {w : World} (s : RecAt k R w.heap v l) {i : Nat} (hi : i < l.length) : ∃ b off c us, v = .slice (some ⟨b, off, none⟩) l.length c ∧ us.length = k ∧ (∀ j (hj : j < us.length), w.cell? ⟨b, off + i * k + j, none⟩ = some us[j]) ∧ R us l[i] := by
  obtain ⟨a, ca, rfl, hla, hea⟩ := s
  obtain ⟨b, off, us, rfl, c1, c2, r1⟩ := hea i hi
  exact ⟨b, off, ca, us, rfl, c1, fun j hj => by rw [cell_of]; exact c2 j hj, r1⟩
theorem rec_at {w : World} {b off n c : Nat} (s : RecAt k R w.heap (.slice (some ⟨b, off, none⟩) n c) l) {i : Nat} (hi : i < l.length) : ∃ us, us.length = k ∧ (∀ j (hj : j < us.length), w.cell? ⟨b, off + i * k + j, none⟩ = some us[j]) ∧ R us l[i] := by
  obtain ⟨b', off', c', us, e, c1, c2, r1⟩ := rec_cell s hi
  injection e with e1 e2 e3
  injection e1 with e1
  injection e1 with e4 e5 _
  subst e4 e5
  exact ⟨us, c1, c2, r1⟩
/-- Some of the first records. -/
theorem RecAt.front {b off n c : Nat} (s : RecAt k R h (.slice (some ⟨b, off, none⟩) n c) l) (m : Nat) (hm : m ≤ l.length) (c' : Nat) : RecAt k R h (.slice (some ⟨b, off, none⟩) m c') (l.take m) := by
  obtain ⟨a, ca, e, hl, hel⟩ := s
  injection e with e1 e2 e3
  have hlen : (l.take m).length = m := by rw [List.length_take]; omega
  refine ⟨_, c', by rw [hlen], by omega, fun i hi => ?_⟩
  obtain ⟨b', off', us, x1, x2, x3, x4⟩ := hel i (by omega)
  rw [← e1] at x1
  refine ⟨b', off', us, x1, x2, x3, ?_⟩
  rw [List.getElem_take]; exact x4
/-- The records behind some of the first. -/
theorem RecAt.back {b off n c : Nat} (s : RecAt k R h (.slice (some ⟨b, off, none⟩) n c) l) (m : Nat) (hm : m ≤ l.length) (n' c' : Nat) (hn : n' = l.length - m) : RecAt k R h (.slice (some ⟨b, off + m * k, none⟩) n' c') (l.drop m) := by
  obtain ⟨a, ca, e, hl, hel⟩ := s
  injection e with e1 e2 e3
  have hlen : (l.drop m).length = l.length - m := List.length_drop
  refine ⟨_, c', by rw [hlen, hn], by omega, fun i hi => ?_⟩
  obtain ⟨b', off', us, x1, x2, x3, x4⟩ := hel (m + i) (by omega)
  rw [← e1] at x1
  simp only [Option.some.injEq, Addr.mk.injEq, and_true] at x1
  obtain ⟨rfl, rfl⟩ := x1
  refine ⟨b, off + m * k, us, rfl, x2, fun j hj => ?_, ?_⟩
  · rw [← x3 j hj, Nat.add_mul, Nat.add_assoc off]
  · rw [List.getElem_drop]; exact x4
/-- The first records, whether there is an address or none. -/
theorem RecAt.take {p : Option Addr} {n c : Nat} (s : RecAt k R h (.slice p n c) l) (m : Nat) (hm : m ≤ l.length) (c' : Nat) : RecAt k R h (.slice p m c') (l.take m) := by
  obtain ⟨a, ca, e, hl, hel⟩ := s
  injection e with e1 e2 e3
  have hlen : (l.take m).length = m := by rw [List.length_take]; omega
  refine ⟨p, c', by rw [hlen], by omega, fun i hi => ?_⟩
  obtain ⟨b', off', us, x1, x2, x3, x4⟩ := hel i (by omega)
  rw [← e1] at x1
  refine ⟨b', off', us, x1, x2, x3, ?_⟩
  rw [List.getElem_take]; exact x4
end

theorem flat_length {k : Nat} : ∀ (us : List (List Value)), (∀ i (h : i < us.length), us[i].length = k) → us.flatten.length = us.length * k
  | [], _ => by simp
  | u :: us, h => by
    have h0 := h 0 (by simp)
    have h1 := flat_length us fun i hi => by have := h (i + 1) (by simp; omega); simpa using this
    simp only [List.flatten_cons, List.length_append, List.length_cons, h1, Nat.add_mul, Nat.one_mul]
    simp only [List.getElem_cons_zero] at h0
    omega
theorem flat_at {k : Nat} : ∀ (us : List (List Value)) (_ : ∀ i (h : i < us.length), us[i].length = k) (i j : Nat) (hi : i < us.length) (hj : j < us[i].length), us.flatten[i * k + j]? = some us[i][j]
  | [], _, i, _, hi, _ => absurd hi (by simp)
  | u :: us, h, 0, j, _, hj => by
    simp only [List.getElem_cons_zero] at hj ⊢
    rw [Nat.zero_mul, Nat.zero_add, List.flatten_cons, List.getElem?_append_left hj, List.getElem?_eq_getElem hj]
  | u :: us, h, i + 1, j, hi, hj => by
    have h0 : u.length = k := by have := h 0 (by simp); simpa using this
    have hi' : i < us.length := by simpa using hi
    simp only [List.getElem_cons_succ] at hj ⊢
    rw [List.flatten_cons, List.getElem?_append_right (by rw [h0, Nat.add_mul]; omega), show (i + 1) * k + j - u.length = i * k + j from by rw [h0, Nat.add_mul]; omega]
    exact flat_at us (fun q hq => by have := h (q + 1) (by simp; omega); simpa using this) i j hi' hj

/-- A slice type t of elements of type e, of k cells each. -/
structure ElemTyK (P : Program) (t e : TypeId) (z : Value) (k bytes : Nat) : Prop where
  ht : P.underlying t = some (.slice e)
  hi : (P.info? e).map (fun i => (i.zero, i.size, i.bytes)) = some (some z, k, bytes)
  hz : z.cells.size = k
  hk : 0 < k
  hb : 1 ≤ bytes
/-- A slice of records of the call's own, that starts at its row's head. -/
def OwnRec {α : Type} (base : Nat) (E : TypeId) (k : Nat) (R : List Value → α → Prop) (w : World) (v : Value) (l : List α) : Prop :=
  ∃ us : List (List Value), w.ownsRow base E k v us.length us.flatten ∧ us.length = l.length ∧ ∀ i (h : i < us.length) (h' : i < l.length), us[i].length = k ∧ R us[i] l[i]
theorem owns_nil (w : World) (base : Nat) (E : TypeId) (k : Nat) : w.ownsRow base E k (.slice none 0 0) 0 [] := ⟨by simp, .inl ⟨rfl, rfl⟩⟩
section
variable {α : Type} {k base : Nat} {T : Nat → Prop} {E : TypeId} {R R' : List Value → α → Prop} {w w' : World} {v v' : Value} {l : List α}
theorem OwnRec.nil (base : Nat) (E : TypeId) (k : Nat) (R : List Value → α → Prop) (w : World) : OwnRec base E k R w (.slice none 0 0) [] :=
  ⟨[], owns_nil _ _ _ _, rfl, fun i h => absurd h (by simp)⟩
theorem OwnRec.push {us : List (List Value)} {u : List Value} {x : α} (h1 : us.length = l.length) (h2 : ∀ i (h : i < us.length) (h' : i < l.length), us[i].length = k ∧ R us[i] l[i]) (h3 : w'.ownsRow base E k v' (us.length + 1) (us.flatten ++ u)) (hr : ∀ a b, b ∈ l → R a b → R' a b) (hu : u.length = k) (hx : R' u x) :
    OwnRec base E k R' w' v' (l ++ [x]) := by
  refine ⟨us ++ [u], by rw [List.length_append, List.flatten_append]; simpa using h3, by rw [List.length_append, List.length_append, h1]; rfl, fun i hi hi' => ?_⟩
  rw [List.length_append] at hi hi'
  simp only [List.length_cons, List.length_nil] at hi hi'
  by_cases e : i < us.length
  · rw [List.getElem_append_left e, List.getElem_append_left (by omega)]
    obtain ⟨h4, h5⟩ := h2 i e (by omega)
    exact ⟨h4, hr _ _ (List.getElem_mem _) h5⟩
  · have e1 : i = us.length := by omega
    subst e1
    rw [List.getElem_append_right (by omega), List.getElem_append_right (by omega)]
    simpa using ⟨hu, hx⟩
theorem own_blockK {n : Nat} {us : List Value} (h : w.ownsRow base E k v n us) : ∀ q, v.ownBlock = some q → base ≤ q ∧ q < w.heap.size ∧ typH w.heap q = some E := by
  intro q hq
  rcases h.2 with ⟨rfl, _⟩ | ⟨g, cap, cur, rfl, hb, hg, _⟩
  · cases hq
  · simp only [Value.ownBlock, Option.some.injEq] at hq
    subst hq
    exact ⟨hb, (Array.getElem?_eq_some_iff.1 hg).1, typH_of hg⟩
theorem owns_chgK {n : Nat} {us : List Value} (h : w.ownsRow base E k v n us) (c : Chg T w w') (ht : ∀ q, v.ownBlock = some q → ¬ T q) : w'.ownsRow base E k v n us := by
  obtain ⟨h1, h2⟩ := h
  refine ⟨h1, ?_⟩
  rcases h2 with h2 | ⟨g, cap, cur, rfl, hb, hg, r⟩
  · exact .inl h2
  · refine .inr ⟨g, cap, cur, rfl, hb, ?_, r⟩
    rw [c.2.2.2.2 g (Array.getElem?_eq_some_iff.1 hg).1 (ht g rfl)]; exact hg
theorem OwnRec.chg (h : OwnRec base E k R w v l) (c : Chg T w w') (ht : ∀ q, base ≤ q → q < w.heap.size → typH w.heap q = some E → ¬ T q) (hr : ∀ a b, b ∈ l → R a b → R' a b) : OwnRec base E k R' w' v l := by
  obtain ⟨us, h1, h2, h3⟩ := h
  exact ⟨us, owns_chgK h1 c fun q hq => let ⟨a, b, d⟩ := own_blockK h1 q hq; ht q a b d, h2, fun i hi hi' => ⟨(h3 i hi hi').1, hr _ _ (List.getElem_mem _) (h3 i hi hi').2⟩⟩
theorem OwnRec.keeps (h : OwnRec base E k R w v l) (c : Keeps w w') (hr : ∀ a b, b ∈ l → R a b → R' a b) : OwnRec base E k R' w' v l :=
  h.chg (T := fun _ => False) (Kept.any c) (fun _ _ _ _ x => x) hr
/-- It reads as that list, in blocks from base on. -/
theorem OwnRec.seq (h : OwnRec base E k R w v l) (hl : l.length ≤ 9223372036854775807) : RecIn (base ≤ ·) E k R w.heap v l := by
  obtain ⟨us, ⟨h0, h1⟩, h2, h3⟩ := h
  rcases h1 with ⟨rfl, hn⟩ | ⟨g, cap, cur, rfl, hb, hg, hc1, hc2, hc3, hc4⟩
  · have : l = [] := List.length_eq_zero_iff.1 (by omega)
    subst this
    exact RecIn.nil _ _ _ _ _
  · refine ⟨some ⟨g, 0, none⟩, cap, by rw [h2], hl, fun i hi => ⟨g, 0, us[i]'(by omega), rfl, ⟨hb, typH_of hg⟩, (h3 i (by omega) hi).1, fun j hj => ⟨?_, ?_⟩, (h3 i (by omega) hi).2⟩⟩
    · rw [← froz_of]; unfold World.frozen?; simp only [hg]; simp
    · rw [Nat.zero_add]
      unfold cellH; simp only [hg]
      have hk : ∀ i (h : i < us.length), us[i].length = k := fun i h => (h3 i h (by omega)).1
      have h4 := flat_at us hk i j (by omega) hj
      have hlt : i * k + j < us.length * k := by rw [← flat_length us hk]; exact (List.getElem?_eq_some_iff.1 h4).1
      rw [← hc4, List.getElem?_take, if_pos hlt] at h4
      rw [← h4, Array.getElem?_toList]
end
section
variable {P : Program} {t e : TypeId} {z : Value} {k bytes : Nat} (E : ElemTyK P t e z k bytes) {w : World} {ops : Array Oper} {rest : List Oper} {o : Oper} {a : Act} {Q : Exit → Act → World → Prop}
include E
/-- 'append(s, xs..)' of m records that lie in a row. -/
theorem wp_apprs (hgd : o.guard = none) (s x : Operand) (ho : o.op = .call { callee := .builtin .append, args := #[s, x], argTypes := #[t, t] })
    (base : Nat) (v : Value) (n : Nat) (xs : List Value) (hs : a.eval s = v) (hown : w.ownsRow base e k v n xs) (b off m c : Nat) (news : List Value) (hx : a.eval x = .slice (some ⟨b, off, none⟩) m c) (hm : news.length = m * k)
    (hc : ∀ j (h : j < news.length), w.cell? ⟨b, off + j, none⟩ = some news[j]) (h1 : ∀ u ∈ news, u.oneCell' = true)
    (hlen : (n + m) * bytes ≤ 140737488355328) (hbase : base ≤ w.heap.size)
    (h : ∀ v' w', w'.ownsRow base e k v' (n + m) (xs ++ news) → Chg (fun q => v.ownBlock = some q) w w' → wpList P ops Q rest (a.put o.dst v') w') : wpList P ops Q (o :: rest) a w := by
  obtain ⟨i, h2, h3, h4, h5⟩ := info_parts E.hi
  have hb := E.hb
  have hle : n + m ≤ (n + m) * bytes := Nat.le_mul_of_pos_right _ hb
  refine wpList_append_own _ hgd s x t ho base e i z k bytes E.ht h2 h3 h4 h5 E.hz E.hk v n xs hs hown ⟨b, off, none⟩ m c news hx hm ?_ h1 (by unfold maxLen; omega) hlen hbase ?_
  · intro j u hj
    obtain ⟨hj1, hj2⟩ := List.getElem?_eq_some_iff.1 hj
    have hadd : (⟨b, off, none⟩ : Addr).add j = ⟨b, off + j, none⟩ := by unfold Addr.add; split <;> simp_all
    rw [hadd, hc j hj1, hj2]
  · intro v' w' h6 h7 _
    exact h v' w' h6 ((Chg.refl _ w).grown h7 fun k hk _ => hk)
/-- 'append(s, x)': the one new record at the head of a block. -/
theorem wp_appr1 (hgd : o.guard = none) (s x : Operand) (ho : o.op = .call { callee := .builtin .append, args := #[s, x], argTypes := #[t, t] })
    (base : Nat) (v : Value) (n : Nat) (xs : List Value) (hs : a.eval s = v) (hown : w.ownsRow base e k v n xs) (b : Nat) (u : List Value) (hx : a.eval x = .slice (some ⟨b, 0, none⟩) 1 1)
    (hu : u.length = k) (hc : ∀ j (h : j < u.length), w.cell? ⟨b, j, none⟩ = some u[j]) (h1 : ∀ y ∈ u, y.oneCell' = true)
    (hlen : (n + 1) * bytes ≤ 140737488355328) (hbase : base ≤ w.heap.size)
    (h : ∀ v' w', w'.ownsRow base e k v' (n + 1) (xs ++ u) → Chg (fun q => v.ownBlock = some q) w w' → wpList P ops Q rest (a.put o.dst v') w') : wpList P ops Q (o :: rest) a w :=
  wp_apprs E hgd s x ho base v n xs hs hown b 0 1 1 u hx (by rw [hu, Nat.one_mul]) (fun j hj => by rw [Nat.zero_add]; exact hc j hj) h1 hlen hbase h
end
section
variable {P : Program} {t e : TypeId} {z : Value} {k bytes : Nat} (E : ElemTyK P t e z k bytes) {w : World} {ops : Array Oper} {o : Oper} {a : Act} {K : Act → World → Prop} {Q : Exit → Act → World → Prop} {E' : Prop}
include E
/-- The same as a step of a drawn region. -/
theorem step_appr1 (hgd : o.guard = none) (s x : Operand) (ho : o.op = .call { callee := .builtin .append, args := #[s, x], argTypes := #[t, t] })
    (base : Nat) (v : Value) (n : Nat) (xs : List Value) (hs : a.eval s = v) (hown : w.ownsRow base e k v n xs) (b : Nat) (u : List Value) (hx : a.eval x = .slice (some ⟨b, 0, none⟩) 1 1)
    (hu : u.length = k) (hc : ∀ j (h : j < u.length), w.cell? ⟨b, j, none⟩ = some u[j]) (h1 : ∀ y ∈ u, y.oneCell' = true)
    (hlen : (n + 1) * bytes ≤ 140737488355328) (hbase : base ≤ w.heap.size)
    (h : ∀ v' w', w'.ownsRow base e k v' (n + 1) (xs ++ u) → Chg (fun q => v.ownBlock = some q) w w' → K (a.put o.dst v') w') :
    if Region.wanted o (yielded ops a.tmps) = true then Oper.wp P o a w K Q else E' := by
  obtain ⟨i, h2, h3, h4, h5⟩ := info_parts E.hi
  have hb := E.hb
  have hle : n + 1 ≤ (n + 1) * bytes := Nat.le_mul_of_pos_right _ hb
  refine step_append_lies w hgd s x t ho base e i z k bytes E.ht h2 h3 h4 h5 E.hz E.hk v n xs hs hown ⟨b, 0, none⟩ 1 1 u hx (by rw [hu, Nat.one_mul]) ?_ h1 (by decide) (by unfold maxLen; omega) hlen hbase _ rfl ?_
  · intro j y hj
    obtain ⟨hj1, hj2⟩ := List.getElem?_eq_some_iff.1 hj
    have hadd : (⟨b, 0, none⟩ : Addr).add j = ⟨b, j, none⟩ := by unfold Addr.add; split <;> simp_all
    rw [hadd, hc j hj1, hj2]
  · intro g cap w' h6 h7 _ _
    exact h _ w' h6 ((Chg.refl _ w).grown h7 fun k hk _ => hk)
/-- The same at the operation itself. -/
theorem oper_appr1 (hgd : o.guard = none) (s x : Operand) (ho : o.op = .call { callee := .builtin .append, args := #[s, x], argTypes := #[t, t] })
    (base : Nat) (v : Value) (n : Nat) (xs : List Value) (hs : a.eval s = v) (hown : w.ownsRow base e k v n xs) (b : Nat) (u : List Value) (hx : a.eval x = .slice (some ⟨b, 0, none⟩) 1 1)
    (hu : u.length = k) (hc : ∀ j (h : j < u.length), w.cell? ⟨b, j, none⟩ = some u[j]) (h1 : ∀ y ∈ u, y.oneCell' = true)
    (hlen : (n + 1) * bytes ≤ 140737488355328) (hbase : base ≤ w.heap.size)
    (h : ∀ v' w', w'.ownsRow base e k v' (n + 1) (xs ++ u) → Chg (fun q => v.ownBlock = some q) w w' → K (a.put o.dst v') w') : Oper.wp P o a w K Q := by
  have := step_appr1 (K := K) (Q := Q) (ops := #[]) (E' := True) E hgd s x ho base v n xs hs hown b u hx hu hc h1 hlen hbase h
  have hw : Region.wanted o (yielded #[] a.tmps) = true := by unfold Region.wanted; rw [hgd]
  rwa [if_pos hw] at this
end
/-- A row of one-cell elements as one of records of a cell. -/
theorem blk_cells {w : World} {g : Nat} {t : TypeId} {u : List Value} (h : w.heap[g]? = some (.cells u.toArray t (0, 0))) : ∀ j (hj : j < u.length), w.cell? ⟨g, j, none⟩ = some u[j] := fun j hj => by
  rw [cell_of]; unfold cellH; rw [h]; simp [hj]
end Go.Proofs.YtdpfanifagfciaaDoor
/- A block that is known whole: its cells, what a store turns of it, what keeps it. No program in sight. -/
namespace Go.Proofs.YtdpfanifagfciaaDoor
open Go.RowKit
/-- Block b is a row of just these cells, and may be written. -/
def BlkAt (w : World) (b : Nat) (t : TypeId) (cs : Array Value) : Prop := w.heap[b]? = some (.cells cs t (0, 0))
theorem BlkAt.lt {w : World} {b : Nat} {t : TypeId} {cs : Array Value} (h : BlkAt w b t cs) : b < w.heap.size := (Array.getElem?_eq_some_iff.1 h).1
theorem BlkAt.typ {w : World} {b : Nat} {t : TypeId} {cs : Array Value} (h : BlkAt w b t cs) : typH w.heap b = some t := typH_of h
theorem BlkAt.cell {w : World} {b : Nat} {t : TypeId} {cs : Array Value} (h : BlkAt w b t cs) {i : Nat} {v : Value} (e : cs[i]? = some v) : w.cell? ⟨b, i, none⟩ = some v := by
  rw [cell_of]; unfold cellH; rw [h]; exact e
theorem BlkAt.froz {w : World} {b : Nat} {t : TypeId} {cs : Array Value} (h : BlkAt w b t cs) (i : Nat) : w.frozen? ⟨b, i, none⟩ = false := by
  rw [froz_of]; unfold frozH; rw [h]; simp
theorem BlkAt.new (w : World) (t : TypeId) (cs : Array Value) : BlkAt (w.alloc (.cells cs t)) w.heap.size t cs := heap_alloc_new w _
theorem BlkAt.chg {T : Nat → Prop} {w w' : World} {b : Nat} {t : TypeId} {cs : Array Value} (h : BlkAt w b t cs) (c : Chg T w w') (hn : ¬ T b) : BlkAt w' b t cs := by
  show w'.heap[b]? = _; rw [c.2.2.2.2 b h.lt hn]; exact h
theorem BlkAt.keeps {w w' : World} {b : Nat} {t : TypeId} {cs : Array Value} (h : BlkAt w b t cs) (c : Keeps w w') : BlkAt w' b t cs := h.chg (T := fun _ => False) (Kept.any c) fun x => x
theorem BlkAt.set {w : World} {b : Nat} {t : TypeId} {cs : Array Value} (h : BlkAt w b t cs) (i : Nat) (v : Value) : BlkAt (w.setCell ⟨b, i, none⟩ v) b t (cs.setIfInBounds i v) := by
  show (w.setCell ⟨b, i, none⟩ v).heap[b]? = _
  simp only [World.setCell, Array.getElem?_modify, if_true]
  rw [h]; simp
theorem BlkAt.other {w : World} {b c i : Nat} {t : TypeId} {cs : Array Value} (h : BlkAt w b t cs) (hne : c ≠ b) (v : Value) : BlkAt (w.setCell ⟨c, i, none⟩ v) b t cs := by
  show (w.setCell ⟨c, i, none⟩ v).heap[b]? = _
  rw [Below.heap_setCell _ _ _ _ (fun e => hne e.symm)]; exact h
/-- The world behind a store into one cell. -/
theorem chg_set (w : World) (b i : Nat) (v : Value) : Chg (fun k => k = b) w (w.setCell ⟨b, i, none⟩ v) := Chg.setCell (p := ⟨b, i, none⟩) (T := fun k => k = b) (Chg.refl _ w) (fun _ => rfl) v
theorem chg_row (w : World) (g : Nat) (c : Array Value) : Chg (fun k => k = g) w (w.setRow g c) :=
  ⟨rfl, rfl, rfl, by simp [World.setRow], fun k _ hn => by
    simp only [World.setRow, Array.getElem?_modify]
    rw [if_neg (fun e => hn e.symm)]⟩
theorem chg_kept {T : Nat → Prop} {B : Nat} {w w' : World} (c : Chg T w w') (hT : ∀ k, k < w.heap.size → T k → B ≤ k) (hB : B ≤ w.heap.size) : Kept B w w' := Chg.kept (c.mono hT) hB
end Go.Proofs.YtdpfanifagfciaaDoor
