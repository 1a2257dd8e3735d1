/- What pack.Read holds while it reads: plain facts. No program in sight. -/
import Derived.Test.YteandjophamipaaPkM
namespace Go.Proofs.Yteandjophamipaa
open Go.RowKit
theorem num_drop (b : List UInt8) (k i : Nat) : num (b.drop k) i = num b (k + i) := by
  unfold num byteAt
  rw [List.getD_eq_getElem?_getD, List.getD_eq_getElem?_getD, List.getD_eq_getElem?_getD, List.getD_eq_getElem?_getD, List.getElem?_drop, List.getElem?_drop, Nat.add_assoc]
theorem okR_short {b : List UInt8} (h : b.length < 6) : okR b = false := by unfold okR; rw [decide_eq_false (p := 6 ≤ b.length) (by omega)]; rfl
theorem okR_head {b : List UInt8} (h : b.take 4 ≠ headB) : okR b = false := by unfold okR; rw [decide_eq_false (p := b.take 4 = headB) h]; simp
theorem okR_from {b : List UInt8} (h : fromR b (cntR b) ≠ b.length) : okR b = false := by unfold okR; rw [decide_eq_false (p := fromR b (cntR b) = b.length) h]; simp
theorem fromR_mono (b : List UInt8) {i k : Nat} (h : i ≤ k) : fromR b i ≤ fromR b k := by have := sumR_mono b h; unfold fromR; omega
theorem fromR_succ (b : List UInt8) (k : Nat) : fromR b (k + 1) = fromR b k + sizeR b k := by unfold fromR; show _ + (sumR b k + _) = _; omega
def Head (b x : List UInt8) (bad : Bool) : Prop := (bad = false → 4 ≤ b.length ∧ b.take 4 = headB ∧ x = b.drop 4) ∧ (bad = true → okR b = false) ∧ x.length ≤ b.length
theorem head_of {b x z : List UInt8} {q : Bool} (hl : x.length ≤ b.length) (h1 : 4 ≤ b.length → z = b.take 4 ∧ x = b.drop 4) (h2 : b.length < 4 → z = List.replicate (min 4 2) 0) (hq : q = !(z == headB)) : Head b x q := by
  subst hq
  rcases Nat.lt_or_ge b.length 4 with h | h
  · have e := h2 h
    subst e
    exact ⟨(fun x => by cases x), fun _ => okR_short (by omega), hl⟩
  · obtain ⟨e1, e2⟩ := h1 h
    subst e1
    refine ⟨fun hb => ⟨h, by simpa using hb, e2⟩, fun hb => okR_head (by simpa using hb), hl⟩
def Inv1 (b : List UInt8) (N i : Nat) (zs : List Nat) (x : List UInt8) (bad : Bool) : Prop :=
  (bad = false → 6 + 2 * i ≤ b.length ∧ b.take 4 = headB ∧ N = cntR b ∧ x = b.drop (6 + 2 * i) ∧ zs = (List.range i).map (sizeR b)) ∧ (bad = true → okR b = false) ∧ x.length ≤ b.length ∧ zs.length = i ∧ ∀ n ∈ zs, n < 65536
theorem inv1_start {b x x' : List UInt8} {bad bad' : Bool} {v : Nat} (h : Head b x bad) (hl : x'.length ≤ x.length) (h1 : 2 ≤ x.length → v = num x 0 ∧ x' = x.drop 2 ∧ bad' = bad) (h2 : x.length < 2 → v = 0 ∧ bad' = true) : Inv1 b v 0 [] x' bad' := by
  obtain ⟨g1, g2, g3⟩ := h
  refine ⟨fun hb => ?_, fun hb => ?_, by omega, rfl, fun n hn => by cases hn⟩
  · rcases Nat.lt_or_ge x.length 2 with hx | hx
    · rw [(h2 hx).2] at hb; cases hb
    · obtain ⟨e1, e2, e3⟩ := h1 hx
      rw [e3] at hb
      obtain ⟨k1, k2, k3⟩ := g1 hb
      subst k3
      rw [List.length_drop] at hx
      exact ⟨by omega, k2, by rw [e1, num_drop]; rfl, by rw [e2, List.drop_drop], rfl⟩
  · rcases Nat.lt_or_ge x.length 2 with hx | hx
    · cases hbad : bad with
      | true => exact g2 hbad
      | false =>
        obtain ⟨k1, k2, k3⟩ := g1 hbad
        subst k3
        rw [List.length_drop] at hx
        exact okR_short (by omega)
    · obtain ⟨e1, e2, e3⟩ := h1 hx
      rw [e3] at hb
      exact g2 hb
theorem Inv1.step {b x x' : List UInt8} {bad' : Bool} {N i v : Nat} {zs : List Nat} (h : Inv1 b N i zs x false) (hi : i < N) (hl : x'.length ≤ x.length) (hv : v < 65536) (h1 : 2 ≤ x.length → v = num x 0 ∧ x' = x.drop 2 ∧ bad' = false) (h2 : x.length < 2 → v = 0 ∧ bad' = true) : Inv1 b N (i + 1) (zs ++ [v]) x' bad' := by
  obtain ⟨g1, g2, g3, g4, g5⟩ := h
  obtain ⟨k1, k2, k3, k4, k5⟩ := g1 rfl
  refine ⟨fun hb => ?_, fun hb => ?_, by omega, by rw [List.length_append, g4]; rfl, fun n hn => ?_⟩
  · rcases Nat.lt_or_ge x.length 2 with hx | hx
    · rw [(h2 hx).2] at hb; cases hb
    · obtain ⟨e1, e2, e3⟩ := h1 hx
      subst k4
      rw [List.length_drop] at hx
      refine ⟨by omega, k2, k3, by rw [e2, List.drop_drop]; congr 1, ?_⟩
      rw [k5, e1, num_drop, List.range_succ, List.map_append]; rfl
  · rcases Nat.lt_or_ge x.length 2 with hx | hx
    · subst k4
      rw [List.length_drop] at hx
      refine okR_from fun e => ?_
      unfold fromR at e; omega
    · rw [(h1 hx).2.2] at hb; cases hb
  · rcases List.mem_append.1 hn with hn | hn
    · exact g5 n hn
    · rw [List.mem_singleton.1 hn]; exact hv
def Inv2 (b : List UInt8) (zs : List Nat) (j : Nat) (cs : List ByteArray) (os : List Int) (x : List UInt8) (bad : Bool) : Prop :=
  (bad = false → b.take 4 = headB ∧ 6 ≤ b.length ∧ zs = (List.range (cntR b)).map (sizeR b) ∧ fromR b j ≤ b.length ∧ x = b.drop (fromR b j) ∧ cs = chunksR b j ∧ os = (List.range j).map (fun k => (fromR b k : Int))) ∧ (bad = true → okR b = false) ∧ x.length ≤ b.length
theorem Inv1.two {b x : List UInt8} {bad : Bool} {N i : Nat} {zs : List Nat} (h : Inv1 b N i zs x bad) (hi : bad = false → i = N) : Inv2 b zs 0 [] [] x bad := by
  obtain ⟨g1, g2, g3, _, _⟩ := h
  refine ⟨fun hb => ?_, g2, g3⟩
  obtain ⟨k1, k2, k3, k4, k5⟩ := g1 hb
  have e := hi hb
  subst e
  subst k3
  exact ⟨k2, by omega, k5, by unfold fromR; show _ + 0 ≤ _; omega, k4, rfl, rfl⟩
theorem Inv2.step {b x x' : List UInt8} {bad bad' : Bool} {zs : List Nat} {j n : Nat} {cs : List ByteArray} {os : List Int} {z : List UInt8} (h : Inv2 b zs j cs os x bad) (hj : j < zs.length) (hn : zs[j] = n) (hl : x'.length ≤ x.length)
    (h1 : n ≤ x.length → z = x.take n ∧ x' = x.drop n ∧ bad' = bad) (h2 : x.length < n → bad' = true) : Inv2 b zs (j + 1) (cs ++ [strB z]) (os ++ [(b.length : Int) - (x.length : Int)]) x' bad' := by
  obtain ⟨g1, g2, g3⟩ := h
  have hjn : ∀ {m : Nat}, zs = (List.range m).map (sizeR b) → j < m ∧ n = sizeR b j := fun {m} e => by
    subst e
    rw [List.length_map, List.length_range] at hj
    refine ⟨hj, ?_⟩
    rw [← hn, List.getElem_map, List.getElem_range]
  refine ⟨fun hb => ?_, fun hb => ?_, by omega⟩
  · rcases Nat.lt_or_ge x.length n with hx | hx
    · rw [h2 hx] at hb; cases hb
    · obtain ⟨e1, e2, e3⟩ := h1 hx
      rw [e3] at hb
      obtain ⟨k1, k2, k3, k4, k5, k6, k7⟩ := g1 hb
      obtain ⟨q1, q2⟩ := hjn k3
      subst k5
      rw [List.length_drop] at hx ⊢
      have hs := fromR_succ b j
      refine ⟨k1, k2, k3, by omega, by rw [e2, List.drop_drop, hs, q2], ?_, ?_⟩
      · rw [k6, chunksR_succ, e1, q2]; rfl
      · rw [k7, List.range_succ, List.map_append]
        congr 1
        simp only [List.map_cons, List.map_nil, List.cons.injEq, and_true]
        omega
  · rcases Nat.lt_or_ge x.length n with hx | hx
    · cases hbad : bad with
      | true => exact g2 hbad
      | false =>
        obtain ⟨k1, k2, k3, k4, k5, k6, k7⟩ := g1 hbad
        obtain ⟨q1, q2⟩ := hjn k3
        subst k5
        rw [List.length_drop] at hx
        have hs := fromR_succ b j
        have hm := fromR_mono b (show j + 1 ≤ cntR b by omega)
        exact okR_from (by omega)
    · rw [(h1 hx).2.2] at hb
      exact g2 hb
theorem readP_no {b : List UInt8} (h : okR b = false) : readP b = ([], [], 4) := by unfold readP; rw [h]; rfl
theorem Inv2.bad {b x : List UInt8} {zs : List Nat} {j : Nat} {cs : List ByteArray} {os : List Int} (h : Inv2 b zs j cs os x true) : readP b = ([], [], 4) := readP_no (h.2.1 rfl)
theorem Inv2.left {b x : List UInt8} {zs : List Nat} {cs : List ByteArray} {os : List Int} (h : Inv2 b zs zs.length cs os x false) (hx : 0 < x.length) : readP b = ([], [], 4) := by
  obtain ⟨k1, k2, k3, k4, k5, k6, k7⟩ := h.1 rfl
  have hz : zs.length = cntR b := by rw [k3]; simp
  rw [hz] at k4 k5
  subst k5
  rw [List.length_drop] at hx
  exact readP_no (okR_from (by omega))
theorem Inv2.all {b x : List UInt8} {zs : List Nat} {cs : List ByteArray} {os : List Int} (h : Inv2 b zs zs.length cs os x false) (hx : x.length = 0) : readP b = if mayP cs then (cs, os, 0) else ([], [], 4) := by
  obtain ⟨k1, k2, k3, k4, k5, k6, k7⟩ := h.1 rfl
  have hz : zs.length = cntR b := by rw [k3]; simp
  rw [hz] at k4 k5 k6 k7
  subst k5
  rw [List.length_drop] at hx
  have hok : okR b = true := okR_iff.2 ⟨k2, k1, by omega⟩
  have ho : offsP (chunksR b (cntR b)) = os := by
    rw [k7]
    unfold offsP
    rw [chunksR_length]
    refine List.map_congr_left fun k hk => ?_
    have hk' := List.mem_range.1 hk
    exact offP_R (by omega) (Nat.le_trans (fromR_mono b (by omega)) k4)
  unfold readP
  rw [hok, ← k6] 
  rw [k6, ho, Bool.true_and]
end Go.Proofs.Yteandjophamipaa
