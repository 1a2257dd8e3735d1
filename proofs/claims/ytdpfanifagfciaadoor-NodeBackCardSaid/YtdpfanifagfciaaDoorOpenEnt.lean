/- A law's lists of entries opened, and how long their texts and lists can be. -/
import Derived.Test.YtdpfanifagfciaaDoorOpenRec
import Derived.Test.YtdpfanifagfciaaDoorNodeB
import Derived.SizedLaws
namespace Go.Proofs.YtdpfanifagfciaaDoor
open Go.ChangeShapes Go.WideShapes Go.ChangeAt Go.RowKit Go.Deep Go.Joins
section
variable {H : Type} {enc : TypeId × Value → H} {W : World} {base : Nat}
theorem weights_all {P : Program} {e : TypeId} {D : DataW H} {s : Nat} : ∀ {ds : List (DataW H)}, D ∈ ds → s ∈ D.weights P e → s ∈ DataW.weightsAll P e ds
  | x :: ds, h, hs => by
    simp only [DataW.weightsAll, List.mem_append]
    rcases List.mem_cons.1 h with rfl | h
    · exact .inl hs
    · exact .inr (weights_all h hs)
/-- All that a datum weighs is in reach. -/
def Reach (P : Program) (t : TypeId) (d : DataW H) : Prop := ∀ s ∈ d.weights P t, s ≤ reachBytes
set_option maxRecDepth 100000 in
theorem open_recsz {α : Type} [Inhabited α] {k : Nat} {R : List Value → α → Prop} {B : α → Prop} {t e : TypeId} {v : Value} {d : DataW H} {p : List MemPlace} (ht : Tryd.prog.underlying t = some (.slice e)) (hc : Tryd.prog.cellsOf e = k) (hk : 0 < k)
    (hR : ∀ n us y, us.length = k → DataW.trod enc Tryd.prog W 0 (fun _ => true) true n e us = some y → ∃ x, R us x ∧ (Reach Tryd.prog e y.1 → B x))
    (hv : Value.okWide Tryd.prog W .any base t v) (h : DataW.Trod enc Tryd.prog W 0 (fun _ => true) true t v d p) (hs : Reach Tryd.prog t d) : ∃ l, RecAt k R W.heap v l ∧ (∀ a n q, v = .slice a n q → n ≤ q) ∧ ∀ x ∈ l, B x := by
  obtain ⟨a, len, cap, rfl⟩ := okWide_slice ht hv
  obtain ⟨n, hn⟩ := h
  rcases open_slice ht (show DataW.trod enc Tryd.prog W 0 (fun _ => true) true n t [.slice a len cap] = some (d, p) by simpa [Value.cells] using hn) with ⟨h0, _⟩ | ⟨a', len', cap', m, n', D, Pl, h0, _, hl, hm, hmm, hd, hx⟩
  · simp only [List.cons.injEq, Value.slice.injEq, and_true] at h0
    obtain ⟨rfl, rfl, rfl⟩ := h0
    exact ⟨[], RecAt.nil k R W.heap, fun a n q e => by cases e; exact Nat.le_refl _, fun x hx => by cases hx⟩
  · simp only [List.cons.injEq, Value.slice.injEq, and_true] at h0
    obtain ⟨rfl, rfl, rfl⟩ := h0
    simp only [if_true] at hmm
    rw [hmm] at hx hd
    rw [hc] at hx
    have hdd : d = .slice ((List.range len).map D) ((List.range (cap - len)).map fun j => D (len + j)) := (Prod.mk.inj hd).1
    have hch := choose_lt (α := α) (n := cap) (p := fun i x => (∃ us, us.length = k ∧ (∀ j (hj : j < us.length), W.cell? ((a'.add (i * k)).add j) = some us[j]) ∧ R us x) ∧ (Reach Tryd.prog e (D i) → B x)) (fun i hi => by
      obtain ⟨us, h1, h2⟩ := hx i hi
      obtain ⟨_, h3, h4⟩ := World.cells?_some h1
      obtain ⟨x, hx, hb⟩ := hR _ us _ h3 h2
      exact ⟨x, ⟨us, h3, fun j hj => by rw [h4 j (by omega), List.getElem?_eq_getElem hj], hx⟩, hb⟩)
    obtain ⟨X, hX⟩ := hch
    refine ⟨(List.range len).map X, ⟨some a', cap, by simp, by simp; unfold maxLen at hm; omega, fun i hi => ?_⟩, fun a n q e => by cases e; exact hl, fun x hxm => ?_⟩
    · have hi' : i < len := by simpa using hi
      obtain ⟨⟨us, h1, h2, h3⟩, _⟩ := hX i (by omega)
      have hs : a'.spot = none := by
        obtain ⟨⟨us0, g1, g2, _⟩, _⟩ := hX 0 (by omega)
        have h5 := g2 0 (by omega)
        exact spot_of (a := a') (by simpa [Addr.add] using h5)
      have ha : a' = ⟨a'.block, a'.off, none⟩ := by cases a'; simp_all
      refine ⟨a'.block, a'.off, us, by rw [← ha], h1, fun j hj => ?_, ?_⟩
      · have h5 := h2 j hj
        rw [add_none hs, add_none rfl, cell_of] at h5
        exact h5
      · simpa using h3
    · obtain ⟨i, hi, rfl⟩ := List.mem_map.1 hxm
      have hi' := List.mem_range.1 hi
      refine (hX i (by omega)).2 fun s hsm => hs s ?_
      rw [hdd]
      simp only [DataW.weights, ht, List.mem_cons, List.mem_append]
      exact .inr (.inl (weights_all (List.mem_map.2 ⟨i, hi, rfl⟩) hsm))
set_option maxRecDepth 100000 in
theorem chunks_of (n : Nat) (u : Value) (y : DataW H × List MemPlace) (h : DataW.trod enc Tryd.prog W 0 (fun _ => true) true n 31 [u] = some y) : ∃ c, SeqAt IsText W.heap u c ∧ (∀ a n q, u = .slice a n q → n ≤ q) ∧ (Reach Tryd.prog 31 y.1 → c.length ≤ 140737488351232) := by
  obtain ⟨c, hc⟩ := open_seq1 (R := IsText) Tryd.underlying31 (by kernel_rfl) (fun n u y h => let ⟨x, h1, _⟩ := text_of Tryd.underlying9 n u y h; ⟨x, h1⟩) h
  obtain ⟨p, q, rfl⟩ := seq_shape hc
  refine ⟨c, hc, ?_⟩
  rcases open_slice1 Tryd.underlying31 (by kernel_rfl) h with ⟨h0, _⟩ | ⟨a, len, cap, m, n, V, D, Pl, h0, _, hl, hm, hmm, hd, hx⟩
  · simp only [List.cons.injEq, Value.slice.injEq, and_true] at h0
    obtain ⟨rfl, h1, rfl⟩ := h0
    exact ⟨fun a n q e => by cases e; omega, fun _ => by omega⟩
  · simp only [List.cons.injEq, Value.slice.injEq, and_true] at h0
    obtain ⟨rfl, h1, rfl⟩ := h0
    refine ⟨fun a n q e => by cases e; omega, fun hs => ?_⟩
    have hb : Tryd.prog.bytesOf 9 = 16 := by kernel_rfl
    have := hs ((((List.range len).map D).length + ((List.range (m - len)).map fun j => D (len + j)).length) * Tryd.prog.bytesOf 9) (by
      rw [hd]
      simp only [DataW.weights, Tryd.underlying31, List.mem_cons]
      exact .inl (by trivial))
    rw [hb] at this
    simp only [List.length_map, List.length_range] at this
    unfold reachBytes at this
    omega
set_option maxRecDepth 100000 in
theorem ent_of (n : Nat) (us : List Value) (y : DataW H × List MemPlace) (hl : us.length = 4) (h : DataW.trod enc Tryd.prog W 0 (fun _ => true) true n 40 us = some y) : ∃ x, IsEnt W.heap us x ∧ (Reach Tryd.prog 40 y.1 → x.c.length ≤ 140737488351232 ∧ x.n.size ≤ 140737488351232) := by
  have hC2 : Tryd.prog.cellsOf 9 = 1 := by kernel_rfl
  have hCb : Tryd.prog.cellsOf 4 = 1 := by kernel_rfl
  have hCi : Tryd.prog.cellsOf 3 = 1 := by kernel_rfl
  have hCs : Tryd.prog.cellsOf 31 = 1 := by kernel_rfl
  match us, hl with
  | [c0, c1, c2, c3], _ =>
    obtain ⟨xs, n, _, hx, _, hlen, hg⟩ := DataW.trod_struct Tryd.underlying40 h
    match xs, hlen with
    | [y0, y1, y2, y3], _ =>
      have g0 : DataW.trod enc Tryd.prog W 0 (fun _ => true) true n 9 [c0] = some y0 := by simpa [Value.cells, hC2] using hg 0 _ rfl
      have g1 : DataW.trod enc Tryd.prog W 0 (fun _ => true) true n 4 [c1] = some y1 := by simpa [Value.cells, hCb] using hg 1 _ rfl
      have g2 : DataW.trod enc Tryd.prog W 0 (fun _ => true) true n 3 [c2] = some y2 := by simpa [Value.cells, hCi] using hg 2 _ rfl
      have g3 : DataW.trod enc Tryd.prog W 0 (fun _ => true) true n 31 [c3] = some y3 := by simpa [Value.cells, hCs] using hg 3 _ rfl
      obtain ⟨s0, e0, f0, _⟩ := DataW.trod_string Tryd.underlying9 g0
      obtain ⟨b1, e1, _⟩ := DataW.trod_bool Tryd.underlying4 g1
      obtain ⟨x2, e2, _, _⟩ := DataW.trod_int Tryd.underlying3 g2
      obtain ⟨c, hc, hq, hz⟩ := chunks_of n c3 y3 g3
      cases e0
      cases e1
      cases e2
      refine ⟨⟨s0, b1, x2, c⟩, ⟨c3, rfl, hc, hq⟩, fun hs => ⟨hz fun s hm => hs s ?_, ?_⟩⟩
      · rw [hx]
        simp only [DataW.weights, Tryd.underlying40]
        exact DataW.weights_mem_each (j := 3) rfl rfl s hm
      · have := hs (s0.data.toList.length) (by
          rw [hx]
          simp only [DataW.weights, Tryd.underlying40]
          exact DataW.weights_mem_each (j := 0) rfl rfl _ (by rw [f0]; simp [DataW.weights]))
        rw [data_size] at this
        exact this
theorem reach_of {ts : List TypeId} {ds : List (DataW H)} {j : Nat} {t : TypeId} {d : DataW H} (hsz : (DataW.weightsEach Tryd.prog ts ds).all (· ≤ reachBytes) = true) (ht : ts[j]? = some t) (hd : ds[j]? = some d) : Reach Tryd.prog t d := fun s hs => by
  simpa using List.all_eq_true.1 hsz _ (DataW.weights_mem_each ht hd s hs)
set_option maxRecDepth 100000 in
theorem open_ents {v : Value} {d : DataW H} {p : List MemPlace} {ts : List TypeId} {ds : List (DataW H)} {j : Nat} (hv : Value.okWide Tryd.prog W .any base 22 v) (h : DataW.Trod enc Tryd.prog W 0 (fun _ => true) true 22 v d p)
    (hsz : (DataW.weightsEach Tryd.prog ts ds).all (· ≤ reachBytes) = true) (ht : ts[j]? = some 22) (hd : ds[j]? = some d) : ∃ l, EntsAt W.heap v l ∧ (∀ a n q, v = .slice a n q → n ≤ q) ∧ WeighE l :=
  open_recsz (k := 4) (B := fun x : EntR => x.c.length ≤ 140737488351232 ∧ x.n.size ≤ 140737488351232) Tryd.underlying22 (by kernel_rfl) (by decide) (fun n us y hl h => ent_of n us y hl h) hv h (reach_of hsz ht hd)
set_option maxRecDepth 100000 in
/-- An entry by value. -/
theorem open_ent {v : Value} {d : DataW H} {p : List MemPlace} {ts : List TypeId} {ds : List (DataW H)} {j : Nat} (hv : Value.okWide Tryd.prog W .any base 40 v) (h : DataW.Trod enc Tryd.prog W 0 (fun _ => true) true 40 v d p)
    (hsz : (DataW.weightsEach Tryd.prog ts ds).all (· ≤ reachBytes) = true) (ht : ts[j]? = some 40) (hd : ds[j]? = some d) : ∃ x : EntR, (∃ us, v = .agg us.toArray ∧ IsEnt W.heap us x) ∧ x.c.length ≤ 140737488351232 ∧ x.n.size ≤ 140737488351232 := by
  obtain ⟨cs, rfl, hsz2⟩ := okWide_struct Tryd.underlying40 hv
  obtain ⟨us⟩ := cs
  have hC : Tryd.prog.cellsOf 40 = 4 := by kernel_rfl
  obtain ⟨fuel, hf⟩ := h
  obtain ⟨x, h1, h2⟩ := ent_of fuel us (d, p) (by rw [hC] at hsz2; exact hsz2) (by simpa [Value.cells] using hf)
  exact ⟨x, ⟨us, rfl, h1⟩, h2 (reach_of hsz ht hd)⟩
end
end Go.Proofs.YtdpfanifagfciaaDoor
