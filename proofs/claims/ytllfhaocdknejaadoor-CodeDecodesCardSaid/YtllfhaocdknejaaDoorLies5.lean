/- A matrix in memory of its own: its rows' places, what they hold; what writing over it does. No program in sight but its types. -/
import Derived.Test.YtllfhaocdknejaaDoorRowG
namespace Go.Proofs.YtllfhaocdknejaaDoor
open Go.RowKit

/-- Block g (cap cells) holds L rows of n bytes, row i in block ρ i: F i 0, .. ; all of it in blocks from B on, no two rows in one. -/
def Lies (B : Nat) (h : Array Obj) (g cap L n : Nat) (F : Nat → Nat → UInt8) (ρ κ : Nat → Nat) : Prop :=
  B ≤ g ∧ (∃ cur : List Value, h[g]? = some (.cells cur.toArray 39 (0, 0)) ∧ cur.length = cap ∧ ∀ i, i < L → cur[i]? = some (.slice (some ⟨ρ i, 0, none⟩) n (κ i))) ∧
  (∀ i, i < L → B ≤ ρ i ∧ RowF h (ρ i) n (F i)) ∧ (∀ i k, i < L → k < L → ρ i = ρ k → i = k) ∧ ∀ i, i < L → n ≤ κ i
section
variable {B g cap L n : Nat} {F G : Nat → Nat → UInt8} {ρ κ : Nat → Nat} {h : Array Obj} {w w' : World}
theorem Lies.typ (l : Lies B h g cap L n F ρ κ) : typH h g = some 39 := by obtain ⟨_, ⟨cur, h1, _⟩, _⟩ := l; unfold typH; rw [h1]
theorem Lies.lt (l : Lies B h g cap L n F ρ κ) : g < h.size := typH_lt l.typ
theorem Lies.le (l : Lies B h g cap L n F ρ κ) : L ≤ cap := by
  obtain ⟨_, ⟨cur, _, h2, h3⟩, _⟩ := l
  rcases Nat.lt_or_ge cap L with h4 | h4
  · have := h3 cap h4
    rw [List.getElem?_eq_none (by omega)] at this; cases this
  · exact h4
theorem Lies.cell (l : Lies B h g cap L n F ρ κ) {i : Nat} (hi : i < L) : cellH h g i = some (.slice (some ⟨ρ i, 0, none⟩) n (κ i)) ∧ frozH h g i = false := by
  obtain ⟨_, ⟨cur, h1, h2, h3⟩, _⟩ := l
  refine ⟨?_, ?_⟩
  · unfold cellH; simp only [h1]; simpa using h3 i hi
  · unfold frozH; simp only [h1]; simp
theorem Lies.row (l : Lies B h g cap L n F ρ κ) {i : Nat} (hi : i < L) : RowF h (ρ i) n (F i) := (l.2.2.1 i hi).2
theorem Lies.rlt (l : Lies B h g cap L n F ρ κ) {i : Nat} (hi : i < L) : ρ i < h.size := typH_lt (l.row hi).1
theorem Lies.ne (l : Lies B h g cap L n F ρ κ) {i : Nat} (hi : i < L) : ρ i ≠ g := fun e => by
  have := (l.row hi).1
  rw [e, l.typ] at this; cases this
theorem Lies.inj (l : Lies B h g cap L n F ρ κ) {i k : Nat} (hi : i < L) (hk : k < L) (e : ρ i = ρ k) : i = k := l.2.2.2.1 i k hi hk e
theorem Lies.room (l : Lies B h g cap L n F ρ κ) {i : Nat} (hi : i < L) : n ≤ κ i := l.2.2.2.2 i hi
theorem Lies.congr (l : Lies B h g cap L n F ρ κ) (e : ∀ i, i < L → ∀ j, j < n → F i j = G i j) : Lies B h g cap L n G ρ κ :=
  ⟨l.1, l.2.1, fun i hi => ⟨(l.2.2.1 i hi).1, (l.2.2.1 i hi).2.congr (e i hi)⟩, l.2.2.2⟩
theorem Lies.chg {T : Nat → Prop} (l : Lies B w.heap g cap L n F ρ κ) (c : Chg T w w') (ht : ∀ b, B ≤ b → b < w.heap.size → ¬ T b) : Lies B w'.heap g cap L n F ρ κ := by
  have hg := ht g l.1 l.lt
  refine ⟨l.1, ?_, fun i hi => ⟨(l.2.2.1 i hi).1, (l.row hi).chg c (ht _ (l.2.2.1 i hi).1 (l.rlt hi))⟩, l.2.2.2⟩
  obtain ⟨cur, h1, h2⟩ := l.2.1
  exact ⟨cur, by rw [c.2.2.2.2 g l.lt hg]; exact h1, h2⟩
/-- One row is written over. -/
theorem Lies.over (l : Lies B w.heap g cap L n F ρ κ) {i : Nat} (hi : i < L) (c : Chg (fun b => b = ρ i) w w') {f : Nat → UInt8} (hf : RowF w'.heap (ρ i) n f) :
    Lies B w'.heap g cap L n (fun k => if k = i then f else F k) ρ κ := by
  refine ⟨l.1, ?_, fun k hk => ⟨(l.2.2.1 k hk).1, ?_⟩, l.2.2.2⟩
  · obtain ⟨cur, h1, h2⟩ := l.2.1
    exact ⟨cur, by rw [c.2.2.2.2 g l.lt (fun e => l.ne hi e.symm)]; exact h1, h2⟩
  · by_cases e : k = i
    · subst e; dsimp only; rw [if_pos rfl]; exact hf
    · dsimp only; rw [if_neg e]; exact (l.row hk).chg c (fun h => e (l.inj hk hi h))
/-- One row's place is set. -/
theorem Lies.put (l : Lies B w.heap g cap L n F ρ κ) {i k : Nat} (hi : i < L) : ∃ cur : List Value,
    (w.setCell ⟨g, i, none⟩ (.slice (some ⟨ρ k, 0, none⟩) n (κ k))).heap[g]? = some (.cells cur.toArray 39 (0, 0)) ∧ cur.length = cap ∧
      ∀ q, q < L → cur[q]? = some (.slice (some ⟨ρ (if q = i then k else q), 0, none⟩) n (κ (if q = i then k else q))) := by
  obtain ⟨cur, h1, h2, h3⟩ := l.2.1
  refine ⟨cur.set i (.slice (some ⟨ρ k, 0, none⟩) n (κ k)), ?_, by simp [h2], fun q hq => ?_⟩
  · unfold World.setCell; simp [Array.getElem?_modify, h1]
  · rw [List.getElem?_set]
    have hiL : i < cur.length := by have := l.le; omega
    by_cases e : i = q
    · subst e; rw [if_pos rfl, if_pos rfl]; simp [hiL]
    · rw [if_neg e, if_neg (fun x => e x.symm)]; exact h3 q hq
/-- It reads as a matrix. -/
theorem Lies.mat {m : List (List UInt8)} (l : Lies B h g cap m.length n F ρ κ) (hr : LA.Rect m n) (hF : ∀ i, i < m.length → ∀ j, j < n → F i j = LA.at_ m i j) (hm : m.length ≤ 4096) (hn : n ≤ 4096) :
    MatIn (B ≤ ·) h (.slice (some ⟨g, 0, none⟩) m.length cap) m := by
  refine ⟨_, _, rfl, by omega, fun i hi => ⟨g, 0, _, rfl, ⟨l.1, l.typ⟩, by rw [Nat.zero_add]; exact (l.cell hi).2, by rw [Nat.zero_add]; exact (l.cell hi).1, ?_⟩⟩
  have hlen : m[i].length = n := hr _ (List.getElem_mem hi)
  rw [← hlen]
  refine ⟨_, _, rfl, by omega, fun j hj => ⟨ρ i, 0, .int .u8 (m[i][j].toNat : Int), rfl, ⟨(l.2.2.1 i hi).1, (l.row hi).1⟩, by rw [Nat.zero_add]; exact ((l.row hi).2 j (by omega)).1, ?_, rfl⟩⟩
  rw [Nat.zero_add, ((l.row hi).2 j (by omega)).2, hF i hi j (by omega)]
  unfold LA.at_
  rw [List.getD_eq_getElem?_getD, List.getD_eq_getElem?_getD, List.getElem?_eq_getElem hi]
  simp [hj]
end

/-- Slices of rows that are gathered by append: k of them, in blocks that rise. -/
def Grows (B : Nat) (w : World) (v : Value) (k n : Nat) (F : Nat → Nat → UInt8) (ρ κ : Nat → Nat) : Prop :=
  ∃ us : List Value, w.ownsRow B 39 1 v us.length us ∧ us.length = k ∧ (∀ i, i < k → us[i]? = some (.slice (some ⟨ρ i, 0, none⟩) n (κ i)) ∧ n ≤ κ i) ∧
    (∀ i, i < k → B ≤ ρ i ∧ ρ i < w.heap.size ∧ RowF w.heap (ρ i) n (F i)) ∧ ∀ i j, i < j → j < k → ρ i < ρ j
theorem Grows.nil (B : Nat) (w : World) (n : Nat) (F : Nat → Nat → UInt8) : Grows B w (.slice none 0 0) 0 n F (fun _ => 0) (fun _ => 0) :=
  ⟨[], World.ownsRow_nil _ _ _ _, rfl, fun i h => by omega, fun i h => by omega, fun i j _ h => by omega⟩
theorem Grows.push {B k n : Nat} {F : Nat → Nat → UInt8} {ρ κ : Nat → Nat} {w w0 w' : World} {v v' : Value} {us : List Value} {r c : Nat} {f : Nat → UInt8} {T : Nat → Prop}
    (h1 : us.length = k) (h2 : ∀ i, i < k → us[i]? = some (.slice (some ⟨ρ i, 0, none⟩) n (κ i)) ∧ n ≤ κ i) (h3 : ∀ i, i < k → B ≤ ρ i ∧ ρ i < w.heap.size ∧ RowF w.heap (ρ i) n (F i)) (h4 : ∀ i j, i < j → j < k → ρ i < ρ j)
    (c0 : Chg T w w0) (hT : ∀ b, b < w.heap.size → ¬ T b) (hr : w.heap.size ≤ r) (hB : B ≤ r) (hf : RowF w0.heap r n f) (hnc : n ≤ c)
    (h5 : w'.ownsRow B 39 1 v' (us.length + 1) (us ++ [.slice (some ⟨r, 0, none⟩) n c])) (cg : Chg (fun b => v.ownBlock = some b) w0 w') (hv : ∀ b, v.ownBlock = some b → typH w0.heap b = some 39) (hF : ∀ j, j < n → f j = F k j) :
    Grows B w' v' (k + 1) n F (fun i => if i = k then r else ρ i) (fun i => if i = k then c else κ i) := by
  have key : ∀ {b : Nat} {q : Nat → UInt8}, RowF w0.heap b n q → RowF w'.heap b n q := fun {b q} hb => hb.chg cg (fun e => by
    have := hv b e
    rw [hb.1] at this; cases this)
  refine ⟨us ++ [.slice (some ⟨r, 0, none⟩) n c], by rw [List.length_append]; exact h5, by simp [h1], fun i hi => ?_, fun i hi => ?_, fun i j hij hj => ?_⟩
  · dsimp only
    by_cases e : i = k
    · subst e; rw [if_pos rfl, if_pos rfl, List.getElem?_append_right (by omega), h1]; simp [hnc]
    · rw [if_neg e, if_neg e, List.getElem?_append_left (by omega)]; exact h2 i (by omega)
  · dsimp only
    by_cases e : i = k
    · subst e
      rw [if_pos rfl]
      have := typH_lt hf.1
      exact ⟨hB, Nat.lt_of_lt_of_le this cg.size, (key hf).congr hF⟩
    · rw [if_neg e]
      obtain ⟨a1, a2, a3⟩ := h3 i (by omega)
      exact ⟨a1, Nat.lt_of_lt_of_le a2 (Nat.le_trans c0.size cg.size), key (a3.chg c0 (hT _ a2))⟩
  · dsimp only
    by_cases e : j = k
    · subst e; rw [if_pos rfl, if_neg (by omega)]; have := (h3 i hij).2.1; omega
    · rw [if_neg e, if_neg (by omega)]; exact h4 i j hij (by omega)
theorem Grows.lies {B k n : Nat} {F : Nat → Nat → UInt8} {ρ κ : Nat → Nat} {w : World} {v : Value} (h : Grows B w v k n F ρ κ) (hk : 0 < k) : ∃ g cap, v = .slice (some ⟨g, 0, none⟩) k cap ∧ Lies B w.heap g cap k n F ρ κ := by
  obtain ⟨us, ⟨h0, h1⟩, h2, h3, h4, h5⟩ := h
  rcases h1 with ⟨rfl, hn⟩ | ⟨g, cap, cur, rfl, hb, hg, hc1, hc2, hc3, hc4⟩
  · omega
  · refine ⟨g, cap, by rw [h2], hb, ⟨cur.toList, by simpa using hg, by simpa using hc3, fun i hi => ?_⟩, fun i hi => ⟨(h4 i hi).1, (h4 i hi).2.2⟩, fun i j hi hj e => ?_, fun i hi => (h3 i hi).2⟩
    · rw [← (h3 i hi).1, ← hc4, List.getElem?_take, if_pos (by omega)]
    · rcases Nat.lt_trichotomy i j with h | h | h
      · have := h5 i j h hj; omega
      · exact h
      · have := h5 j i h hi; omega
end Go.Proofs.YtllfhaocdknejaaDoor
