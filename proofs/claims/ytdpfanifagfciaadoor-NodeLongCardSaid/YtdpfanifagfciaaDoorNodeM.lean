/- Entries with one more behind them: plain. And rows of entries that a call makes. -/
import Derived.Test.YtdpfanifagfciaaDoorNode6
import Derived.Test.YtdpfanifagfciaaDoorRecCut
namespace Go.Proofs.YtdpfanifagfciaaDoor
open Go.RowKit
theorem eAt_left {l m : List EntR} {k : Nat} (h : k < l.length) : eAt (l ++ m) k = eAt l k := by
  unfold eAt
  rw [List.getD_eq_getElem?_getD, List.getD_eq_getElem?_getD, List.getElem?_append_left h]
theorem eAt_right {l m : List EntR} {k : Nat} : eAt (l ++ m) (l.length + k) = eAt m k := by
  unfold eAt
  rw [List.getD_eq_getElem?_getD, List.getD_eq_getElem?_getD, List.getElem?_append_right (by omega)]
  congr 2; omega
theorem eAt_last {l : List EntR} {x : EntR} : eAt (l ++ [x]) l.length = x := by
  have := eAt_right (l := l) (m := [x]) (k := 0)
  rw [Nat.add_zero] at this
  rw [this]; rfl
theorem may_single (x : EntR) : mayL [x] = mayE x := by
  unfold mayL
  simp [List.range_succ, okE, eAt]
theorem okE_left {l m : List EntR} {k : Nat} (h : k < l.length) : okE (l ++ m) k = okE l k := by
  unfold okE
  rw [eAt_left h]
  rcases Nat.eq_zero_or_pos k with h0 | h0
  · subst h0; simp
  · rw [eAt_left (k := k - 1) (by omega)]
theorem mayL_all {l : List EntR} (h : mayL l = true) : l.length ≤ 256 ∧ ∀ k, k < l.length → okE l k = true := by
  unfold mayL at h
  rw [Bool.and_eq_true, decide_eq_true_eq, List.all_eq_true] at h
  exact ⟨h.1, fun k hk => h.2 k (List.mem_range.2 hk)⟩
/-- Stands one above all others? -/
def aboveE (l : List EntR) (x : EntR) : Bool := decide (l.length = 0) || lessT (eAt l (l.length - 1)).n x.n
theorem may_more {l : List EntR} (x : EntR) (h : mayL l = true) : mayL (l ++ [x]) = (mayL [x] && aboveE l x && decide (l.length < 256)) := by
  obtain ⟨_, h2⟩ := mayL_all h
  rw [may_single]
  unfold mayL
  rw [List.length_append, List.length_singleton, List.range_succ, List.all_append]
  have e1 : (List.range l.length).all (okE (l ++ [x])) = true := by
    rw [List.all_eq_true]
    intro k hk
    have := List.mem_range.1 hk
    rw [okE_left this]; exact h2 k this
  have e2 : okE (l ++ [x]) l.length = (mayE x && aboveE l x) := by
    unfold okE aboveE
    rw [eAt_last]
    rcases Nat.eq_zero_or_pos l.length with h0 | h0
    · rw [h0]; simp
    · rw [eAt_left (k := l.length - 1) (by omega)]
  rw [e1]
  simp only [List.all_cons, List.all_nil, Bool.and_true, Bool.true_and, e2]
  have e3 : decide (l.length + 1 ≤ 256) = decide (l.length < 256) := decide_eq_decide.2 (by omega)
  rw [e3, Bool.and_comm]
theorem owns_mono {b b' : Nat} {E : TypeId} {k n : Nat} {w : World} {v : Value} {us : List Value} (h : w.ownsRow b E k v n us) (hb : b' ≤ b) : w.ownsRow b' E k v n us := by
  obtain ⟨h1, h2⟩ := h
  refine ⟨h1, ?_⟩
  rcases h2 with h2 | ⟨g, cap, cur, e, hg, r⟩
  · exact .inl h2
  · exact .inr ⟨g, cap, cur, e, Nat.le_trans hb hg, r⟩
/-- One entry, in a new block. -/
theorem ents_one {T : TypeId} (w : World) (x : EntR) (v : Value) (h : SeqAt IsText w.heap v x.c) (hq : ∀ a n q, v = .slice a n q → n ≤ q) : EntsAt (w.alloc (.cells #[.string x.n, .bool x.d, .int .i64 x.z, v] T)).heap (.slice (some ⟨w.heap.size, 0, none⟩) 1 1) [x] := by
  refine ⟨_, 1, rfl, by simp, fun i hi => ⟨w.heap.size, 0, [.string x.n, .bool x.d, .int .i64 x.z, v], rfl, rfl, fun j hj => ?_, ?_⟩⟩
  · have hi0 : i = 0 := by simpa using hi
    subst hi0
    rw [← cell_of, World.cell?_alloc_new, Nat.zero_mul, Nat.zero_add, ← Array.getElem?_toList]
    exact List.getElem?_eq_getElem hj
  · have hi0 : i = 0 := by simpa using hi
    subst hi0
    exact ⟨v, rfl, SeqAt.keeps h (kal _ _), hq⟩
/-- The cells of a list of entries. -/
theorem ents_cells {w : World} {p : Option Addr} {n c : Nat} {l : List EntR} (s : EntsAt w.heap (.slice p n c) l) : ∃ us : List (List Value), us.length = l.length ∧ us.flatten.length = l.length * 4 ∧ (∀ i (h : i < us.length) (h' : i < l.length), us[i].length = 4 ∧ IsEnt w.heap us[i] l[i]) ∧ (∀ u ∈ us.flatten, u.oneCell' = true) ∧
    (0 < l.length → ∃ b o, p = some ⟨b, o, none⟩ ∧ ∀ j (hj : j < us.flatten.length), w.cell? ⟨b, o + j, none⟩ = some us.flatten[j]) := by
  rcases Nat.eq_zero_or_pos l.length with h0 | h0
  · have hl := List.length_eq_zero_iff.1 h0
    subst hl
    exact ⟨[], rfl, rfl, fun i h => absurd h (by simp), fun u hu => by simp at hu, fun h => absurd h (by simp)⟩
  · obtain ⟨b, o, _, _, rfl, _⟩ := ent_cell s h0
    obtain ⟨us, h1, h2, h3, h4⟩ := rec_us s
    refine ⟨us, h1, by rw [flat_length us h2, h1], fun i h h' => ⟨h2 i h, h3 i h h'⟩, fun u hu => ?_, fun _ => ⟨b, o, rfl, fun j hj => by rw [cell_of]; exact h4 j hj⟩⟩
    obtain ⟨ys, hy, hm⟩ := List.mem_flatten.1 hu
    obtain ⟨i, hi, rfl⟩ := List.getElem_of_mem hy
    obtain ⟨v, e, hs, _⟩ := h3 i hi (by omega)
    obtain ⟨pc, qc, rfl⟩ := seq_shape hs
    rw [e] at hm
    simp at hm
    rcases hm with rfl | rfl | rfl | rfl <;> rfl
/-- Own rows of entries' cells read as the entries, whose chunks lie in kept memory. -/
theorem ents_own {w w' : World} {N : Nat} {T : TypeId} {v : Value} {m : Nat} {us : List (List Value)} {l : List EntR} (h : w'.ownsRow N T 4 v m us.flatten) (hm : us.length = m) (hl : us.length = l.length) (hr : ∀ i (h : i < us.length) (h' : i < l.length), us[i].length = 4 ∧ IsEnt w.heap us[i] l[i]) (hk : Keeps w w') (hb : l.length ≤ 9223372036854775807) : EntsAt w'.heap v l := by
  have h1 : OwnRec N T 4 (IsEnt w'.heap) w' v l := ownRec_of h hm hl fun i h h' => ⟨(hr i h h').1, let ⟨v, e, t, c⟩ := (hr i h h').2; ⟨v, e, SeqAt.keeps t hk, c⟩⟩
  exact RecIn.at_ (h1.seq hb)
theorem run_append_none (T E : TypeId) (hT : Tryd.prog.underlying T = some (.slice E)) {i : TypeInfo} (hi : Tryd.prog.info? E = some i) (ty : TypeId) (g : Nat) (p : Option Addr) (c : Nat) (w : World) :
    (Builtin.append_ #[T, T] ty #[.slice (some ⟨g, 0, none⟩) 0 0, .slice p 0 c]).run Tryd.prog w = .ok (.slice (some ⟨g, 0, none⟩) 0 0) w := by
  cases p <;> simp [Builtin.append_, run_underlying hT, sizeOf, typeInfo, hi, Builtin.lenOf, Builtin.firstCells, loadCells, loadCellsFrom, storeCells]
/-- append of records onto a slice of no cells and no room: in new memory, or nothing. -/
theorem oper_freshR {T E : TypeId} {z : Value} {k bytes : Nat} (EL : ElemTyK Tryd.prog T E z k bytes) {w : World} {o : Oper} {a : Act} {K : Act → World → Prop} {Q : Exit → Act → World → Prop} (hgd : o.guard = none) (s x : Operand) (ho : o.op = .call { callee := .builtin .append, args := #[s, x], argTypes := #[T, T] })
    (g N : Nat) (hs : a.eval s = .slice (some ⟨g, 0, none⟩) 0 0) (hown : w.ownsRow N E k (.slice (some ⟨g, 0, none⟩) 0 0) 0 []) (hN : N ≤ w.heap.size) (p : Option Addr) (m c : Nat) (news : List Value) (hx : a.eval x = .slice p m c) (hm : news.length = m * k)
    (hc : 0 < m → ∃ b off, p = some ⟨b, off, none⟩ ∧ ∀ j (h : j < news.length), w.cell? ⟨b, off + j, none⟩ = some news[j]) (hlen : m * bytes ≤ 140737488355328)
    (h : ∀ v' w', w'.ownsRow N E k v' m news → Keeps w w' → K (a.put o.dst v') w') : Oper.wp Tryd.prog o a w K Q := by
  rcases Nat.eq_zero_or_pos m with h0 | h0
  · subst h0
    obtain rfl : news = [] := List.length_eq_zero_iff.1 (by omega)
    obtain ⟨i, h2, _⟩ := info_parts EL.hi
    have hr := run_append_none T E EL.ht h2 o.type g p c w
    unfold Oper.wp execOp
    simp only [ho, resolve, invoke, builtin, Sem.run_bind, Sem.run_pure, Result.andThen_ok, List.map_toArray, List.map_cons, List.map_nil, hs, hx, hr]
    exact h _ _ hown (keeps_refl _)
  · obtain ⟨b, off, rfl, hcc⟩ := hc h0
    refine oper_fresh EL hgd s x ho g hs b off m c news hx hm h0 hcc hlen fun v' w' h2 h3 => h _ _ (owns_mono h2 hN) h3
theorem own_empty0 (w : World) (base : Nat) (e : TypeId) (k : Nat) (hb : base ≤ w.heap.size) : (w.alloc (.cells #[] e)).ownsRow base e k (.slice (some ⟨w.heap.size, 0, none⟩) 0 0) 0 [] :=
  ⟨by simp, .inr ⟨w.heap.size, 0, #[], rfl, hb, by unfold World.alloc; simp, Nat.le_refl _, by simp [maxLen], by simp, by simp⟩⟩
end Go.Proofs.YtdpfanifagfciaaDoor
