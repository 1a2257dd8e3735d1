/- What is read of a directory's bytes: plain. -/
import Derived.Test.YtdpfanifagfciaaDoorNodeE
namespace Go.Proofs.YtdpfanifagfciaaDoor
open Go.RowKit
theorem beN_numB1 {n : Nat} (h : n < 256) : beN (numB n 1) = n := by
  rw [numB_one]; unfold beN
  simp only [List.foldl_cons, List.foldl_nil, UInt8.toNat_ofNat']; omega
theorem beN_numB2 {n : Nat} (h : n < 65536) : beN (numB n 2) = n := by
  rw [numB_two]; unfold beN
  simp only [List.foldl_cons, List.foldl_nil, UInt8.toNat_ofNat']; omega
theorem beN_numB4 {n : Nat} (h : n < 4294967296) : beN (numB n 4) = n := by
  rw [numB_four]; unfold beN
  simp only [List.foldl_cons, List.foldl_nil, UInt8.toNat_ofNat']; omega
theorem u8_of {a : UInt8} {n : Nat} (h : n % 256 = a.toNat) : UInt8.ofNat n = a := by
  apply UInt8.toNat_inj.1
  rw [UInt8.toNat_ofNat']; exact h
theorem numB_beN1 {l : List UInt8} (h : l.length = 1) : numB (beN l) 1 = l := by
  match l, h with
  | [a], _ =>
    rw [numB_one]; unfold beN
    have := UInt8.toNat_lt a
    rw [u8_of (a := a) (by simp only [List.foldl_cons, List.foldl_nil]; omega)]
theorem numB_beN2 {l : List UInt8} (h : l.length = 2) : numB (beN l) 2 = l := by
  match l, h with
  | [a, b], _ =>
    rw [numB_two]; unfold beN
    have := UInt8.toNat_lt a
    have := UInt8.toNat_lt b
    rw [u8_of (a := a) (by simp only [List.foldl_cons, List.foldl_nil]; omega), u8_of (a := b) (by simp only [List.foldl_cons, List.foldl_nil]; omega)]
theorem numB_beN4 {l : List UInt8} (h : l.length = 4) : numB (beN l) 4 = l := by
  match l, h with
  | [a, b, c, d], _ =>
    rw [numB_four]; unfold beN
    have := UInt8.toNat_lt a
    have := UInt8.toNat_lt b
    have := UInt8.toNat_lt c
    have := UInt8.toNat_lt d
    rw [u8_of (a := a) (by simp only [List.foldl_cons, List.foldl_nil]; omega), u8_of (a := b) (by simp only [List.foldl_cons, List.foldl_nil]; omega), u8_of (a := c) (by simp only [List.foldl_cons, List.foldl_nil]; omega), u8_of (a := d) (by simp only [List.foldl_cons, List.foldl_nil]; omega)]
/-- An entry's numbers and texts fit their bytes. -/
def RawE (x : EntR) : Prop := 0 ≤ x.z ∧ x.z < 4294967296 ∧ x.n.size < 256 ∧ x.c.length < 65536 ∧ ∀ s ∈ x.c, s.size = 32
theorem mayE_raw {x : EntR} (h : mayE x = true) : RawE x := by
  obtain ⟨h1, h2, h3, h4, h5⟩ := mayE_nums h
  exact ⟨h1, by omega, by omega, by omega, h5⟩
theorem tk_app {m : Nat} {a r : List UInt8} (h : a.length = m) : tkB m (a ++ r) = a ∧ drB m (a ++ r) = r ∧ ∀ b, badB m (a ++ r) b = b := by
  have hl : m ≤ (a ++ r).length := by rw [List.length_append]; omega
  refine ⟨?_, ?_, fun b => ?_⟩
  · unfold tkB; rw [if_pos hl, ← h, List.take_left]
  · unfold drB; rw [if_pos hl, ← h, List.drop_left]
  · unfold badB; rw [decide_eq_true hl]; simp
theorem bad_no {m : Nat} {r : List UInt8} {b : Bool} (h : badB m r b = false) : b = false ∧ r = tkB m r ++ drB m r ∧ (tkB m r).length = m := by
  unfold badB at h
  rw [Bool.or_eq_false_iff, Bool.not_eq_false', decide_eq_true_eq] at h
  refine ⟨h.1, ?_, ?_⟩
  · unfold tkB drB; rw [if_pos h.2, if_pos h.2, List.take_append_drop]
  · unfold tkB; rw [if_pos h.2, List.length_take]; omega
/-- Chunks: so many; none is taken any more once it is bad. -/
def chS : Nat → List ByteArray → List UInt8 → Bool → List ByteArray × List UInt8 × Bool
  | 0, c, r, bad => (c, r, bad)
  | m + 1, c, r, bad => if bad then (c, r, bad) else chS m (c ++ [strB (tkB 32 r)]) (drB 32 r) (badB 32 r bad)
/-- An entry, and what is left behind it. -/
def enS (r : List UInt8) (bad : Bool) : EntR × List UInt8 × Bool :=
  let k := beN (tkB 1 r)
  let r1 := drB 1 r
  let b1 := badB 1 r bad || decide (1 < k)
  let nn := beN (tkB 1 r1)
  let r2 := drB 1 r1
  let b2 := badB 1 r1 b1
  let r3 := drB nn r2
  let b3 := badB nn r2 b2
  let z := beN (tkB 4 r3)
  let r4 := drB 4 r3
  let b4 := badB 4 r3 b3
  let m := beN (tkB 2 r4)
  let x := chS m [] (drB 2 r4) (badB 2 r4 b4)
  (⟨strB (tkB nn r2), decide (k = 1), (z : Int), x.1⟩, x.2.1, x.2.2)
def elS : Nat → List EntR → List UInt8 → Bool → List EntR × List UInt8 × Bool
  | 0, l, r, bad => (l, r, bad)
  | m + 1, l, r, bad => if bad then (l, r, bad) else elS m (l ++ [(enS r bad).1]) (enS r bad).2.1 (enS r bad).2.2
theorem chS_bad : ∀ (m : Nat) (c : List ByteArray) (r : List UInt8), (chS m c r true).2.2 = true
  | 0, _, _ => rfl
  | m + 1, c, r => by unfold chS; rw [if_pos rfl]
/-- Of chunks' bytes the chunks are read. -/
theorem chS_of : ∀ (d c : List ByteArray) (r : List UInt8), (∀ s ∈ d, s.size = 32) → chS d.length c (flatC d ++ r) false = (c ++ d, r, false)
  | [], c, r, _ => by simp [chS, flatC]
  | s :: d, c, r, h => by
    have e : flatC (s :: d) ++ r = s.data.toList ++ (flatC d ++ r) := by unfold flatC; simp
    obtain ⟨h1, h2, h3⟩ := tk_app (m := 32) (a := s.data.toList) (r := flatC d ++ r) (by rw [data_size]; exact h s (List.mem_cons_self ..))
    rw [e, List.length_cons]
    unfold chS
    rw [if_neg (by decide), h1, h2, h3, strB_data, chS_of d _ r fun y hy => h y (List.mem_cons_of_mem _ hy)]
    simp
/-- And back. -/
theorem chS_back : ∀ (m : Nat) (c : List ByteArray) (r : List UInt8) (d : List ByteArray) (r' : List UInt8), chS m c r false = (d, r', false) → ∃ e, d = c ++ e ∧ e.length = m ∧ (∀ s ∈ e, s.size = 32) ∧ r = flatC e ++ r'
  | 0, c, r, d, r', h => by
    unfold chS at h
    have h1 := (Prod.mk.inj h).1
    have h2 := (Prod.mk.inj (Prod.mk.inj h).2).1
    refine ⟨[], by rw [h1]; simp, rfl, ?_, ?_⟩
    · intro s hs; cases hs
    · rw [h2]; simp [flatC]
  | m + 1, c, r, d, r', h => by
    unfold chS at h
    rw [if_neg (by decide)] at h
    cases hb : badB 32 r false with
    | true =>
      rw [hb] at h
      have := chS_bad m (c ++ [strB (tkB 32 r)]) (drB 32 r)
      rw [h] at this; cases this
    | false =>
      rw [hb] at h
      obtain ⟨_, h2, h3⟩ := bad_no hb
      obtain ⟨e, e1, e2, e3, e4⟩ := chS_back m _ _ d r' h
      refine ⟨strB (tkB 32 r) :: e, by rw [e1]; simp, by rw [List.length_cons, e2], fun s hs => ?_, ?_⟩
      · rcases List.mem_cons.1 hs with rfl | hs
        · rw [strB_size]; exact h3
        · exact e3 s hs
      · have e5 : flatC (strB (tkB 32 r) :: e) = tkB 32 r ++ flatC e := by unfold flatC; simp [strB]
        rw [e5, List.append_assoc, ← e4]; exact h2
/-- Of an entry's bytes the entry is read. -/
theorem enS_of {x : EntR} {r : List UInt8} (h : RawE x) : enS (entB x ++ r) false = (x, r, false) := by
  obtain ⟨h1, h2, h3, h4, h5⟩ := h
  have hk : kindB x < 256 := by unfold kindB; split <;> omega
  have e : entB x ++ r = numB (kindB x) 1 ++ (numB x.n.size 1 ++ (x.n.data.toList ++ (numB x.z.toNat 4 ++ (numB x.c.length 2 ++ (flatC x.c ++ r))))) := by unfold entB; simp only [List.append_assoc]
  rw [e]
  obtain ⟨a1, a2, a3⟩ := tk_app (m := 1) (a := numB (kindB x) 1) (r := numB x.n.size 1 ++ (x.n.data.toList ++ (numB x.z.toNat 4 ++ (numB x.c.length 2 ++ (flatC x.c ++ r))))) (numB_length _ _)
  obtain ⟨b1, b2, b3⟩ := tk_app (m := 1) (a := numB x.n.size 1) (r := x.n.data.toList ++ (numB x.z.toNat 4 ++ (numB x.c.length 2 ++ (flatC x.c ++ r)))) (numB_length _ _)
  obtain ⟨c1, c2, c3⟩ := tk_app (m := x.n.size) (a := x.n.data.toList) (r := numB x.z.toNat 4 ++ (numB x.c.length 2 ++ (flatC x.c ++ r))) (data_size _)
  obtain ⟨d1, d2, d3⟩ := tk_app (m := 4) (a := numB x.z.toNat 4) (r := numB x.c.length 2 ++ (flatC x.c ++ r)) (numB_length _ _)
  obtain ⟨f1, f2, f3⟩ := tk_app (m := 2) (a := numB x.c.length 2) (r := flatC x.c ++ r) (numB_length _ _)
  have k1 : decide (1 < kindB x) = false := decide_eq_false (by unfold kindB; split <;> omega)
  have k2 : decide (kindB x = 1) = x.d := by unfold kindB; cases x.d <;> rfl
  unfold enS
  simp only [a1, a2, a3, b1, b2, b3, beN_numB1 hk, beN_numB1 h3, k1, k2, Bool.or_false, c1, c2, c3, d1, d2, d3, f1, f2, f3, beN_numB4 (show x.z.toNat < 4294967296 by omega), beN_numB2 h4, chS_of _ _ _ h5, strB_data, List.nil_append]
  have hz : ((x.z.toNat : Nat) : Int) = x.z := by omega
  rw [hz]
theorem enS_bad (r : List UInt8) : (enS r true).2.2 = true := by
  have : ∀ (m : Nat) (r : List UInt8), badB m r true = true := fun m r => rfl
  unfold enS
  simp only [this, Bool.true_or, chS_bad]
/-- And back. -/
theorem enS_back {r r' : List UInt8} {x : EntR} (h : enS r false = (x, r', false)) : RawE x ∧ r = entB x ++ r' := by
  have hb : (enS r false).2.2 = false := by rw [h]
  have hx : x = (enS r false).1 := by rw [h]
  have hr : r' = (enS r false).2.1 := by rw [h]
  clear h
  unfold enS at hb hx hr
  simp only at hb hx hr
  generalize hR1 : drB 1 r = r1 at *
  generalize hR2 : drB 1 r1 = r2 at *
  generalize hN : beN (tkB 1 r1) = nn at *
  generalize hR3 : drB nn r2 = r3 at *
  generalize hR4 : drB 4 r3 = r4 at *
  generalize hR5 : drB 2 r4 = r5 at *
  generalize hM : beN (tkB 2 r4) = m at *
  generalize hB5 : badB 2 r4 _ = b5 at *
  obtain ⟨c, rr, bb, hc⟩ : ∃ c rr bb, chS m [] r5 b5 = (c, rr, bb) := ⟨_, _, _, rfl⟩
  rw [hc] at hb hx hr
  simp only at hb hx hr
  subst hb hr
  cases b5 with
  | true =>
    have := chS_bad m [] r5
    rw [hc] at this; cases this
  | false =>
  obtain ⟨p4, q4, l4⟩ := bad_no hB5
  obtain ⟨p3, q3, l3⟩ := bad_no p4
  obtain ⟨p2, q2, l2⟩ := bad_no p3
  obtain ⟨p1, q1, l1⟩ := bad_no p2
  rw [Bool.or_eq_false_iff, decide_eq_false_iff_not] at p1
  obtain ⟨_, q0, l0⟩ := bad_no p1.1
  obtain ⟨e, e1, e2, e3, e4⟩ := chS_back m [] r5 c r' hc
  rw [List.nil_append] at e1
  subst e1
  have hk0 : beN (tkB 1 r) ≤ 1 := by omega
  have z1 := beN_lt (tkB 4 r3)
  rw [l3] at z1
  have z2 := beN_lt (tkB 1 r1)
  rw [l1, hN] at z2
  have z3 := beN_lt (tkB 2 r4)
  rw [l4, hM] at z3
  subst hx
  refine ⟨⟨by simp only; omega, by simp only; omega, by simp only [strB_size, l2]; omega, by simp only [e2]; omega, e3⟩, ?_⟩
  have kk : kindB ⟨strB (tkB nn r2), decide (beN (tkB 1 r) = 1), (beN (tkB 4 r3) : Int), c⟩ = beN (tkB 1 r) := by
    unfold kindB
    by_cases h1 : beN (tkB 1 r) = 1
    · simp [h1]
    · have : beN (tkB 1 r) = 0 := by omega
      simp [this]
  unfold entB
  rw [kk]
  simp only [strB_size, l2, e2, Int.toNat_natCast, List.append_assoc]
  have g1 : numB nn 1 = tkB 1 r1 := by rw [← hN]; exact numB_beN1 l1
  have g2 : numB m 2 = tkB 2 r4 := by rw [← hM]; exact numB_beN2 l4
  have s0 : r = tkB 1 r ++ r1 := by rw [← hR1]; exact q0
  have s1 : r1 = tkB 1 r1 ++ r2 := by rw [← hR2]; exact q1
  have s2 : r2 = tkB nn r2 ++ r3 := by rw [← hR3]; exact q2
  have s3 : r3 = tkB 4 r3 ++ r4 := by rw [← hR4]; exact q3
  have s4 : r4 = tkB 2 r4 ++ (flatC c ++ r') := by rw [← e4, ← hR5]; exact q4
  rw [numB_beN1 l0, g1, numB_beN4 l3, g2]
  exact s0.trans (congrArg _ (s1.trans (congrArg _ (s2.trans (congrArg _ (s3.trans (congrArg _ s4)))))))
theorem elS_bad : ∀ (m : Nat) (c : List EntR) (r : List UInt8), (elS m c r true).2.2 = true
  | 0, _, _ => rfl
  | m + 1, c, r => by unfold elS; rw [if_pos rfl]
theorem elS_of : ∀ (l acc : List EntR) (r : List UInt8), (∀ x ∈ l, RawE x) → elS l.length acc ((l.map entB).flatten ++ r) false = (acc ++ l, r, false)
  | [], acc, r, _ => by simp [elS]
  | x :: l, acc, r, h => by
    have e : ((x :: l).map entB).flatten ++ r = entB x ++ ((l.map entB).flatten ++ r) := by simp
    rw [e, List.length_cons]
    unfold elS
    rw [if_neg (by decide), enS_of (h x (List.mem_cons_self ..))]
    rw [elS_of l _ r fun y hy => h y (List.mem_cons_of_mem _ hy)]
    simp
theorem elS_back : ∀ (m : Nat) (acc : List EntR) (r : List UInt8) (d : List EntR) (r' : List UInt8), elS m acc r false = (d, r', false) → ∃ e, d = acc ++ e ∧ e.length = m ∧ (∀ x ∈ e, RawE x) ∧ r = (e.map entB).flatten ++ r'
  | 0, c, r, d, r', h => by
    unfold elS at h
    have h1 := (Prod.mk.inj h).1
    have h2 := (Prod.mk.inj (Prod.mk.inj h).2).1
    refine ⟨[], by rw [h1]; simp, rfl, ?_, ?_⟩
    · intro s hs; cases hs
    · rw [h2]; simp
  | m + 1, c, r, d, r', h => by
    unfold elS at h
    rw [if_neg (by decide)] at h
    obtain ⟨x, r1, b1, hx⟩ : ∃ x r1 b1, enS r false = (x, r1, b1) := ⟨_, _, _, rfl⟩
    rw [hx] at h
    simp only at h
    cases b1 with
    | true =>
      have := elS_bad m (c ++ [x]) r1
      rw [h] at this; cases this
    | false =>
      obtain ⟨h1, h2⟩ := enS_back hx
      obtain ⟨e, e1, e2, e3, e4⟩ := elS_back m _ _ d r' h
      refine ⟨x :: e, by rw [e1]; simp, by rw [List.length_cons, e2], fun y hy => ?_, ?_⟩
      · rcases List.mem_cons.1 hy with rfl | hy
        · exact h1
        · exact e3 y hy
      · rw [h2, e4]; simp
/-- What node.Read tells of bytes. -/
def readP (s : List UInt8) : Option (List EntR) :=
  let b1 := (tkB 4 s != [100, 105, 114, 49]) || badB 4 s (decide (16384 < s.length))
  let r1 := drB 4 s
  let x := elS (beN (tkB 2 r1)) [] (drB 2 r1) (badB 2 r1 b1)
  if x.2.2 || decide (0 < x.2.1.length) || !mayL x.1 then none else some x.1
/-- The directory that has these bytes. -/
theorem readP_some {s : List UInt8} {l : List EntR} : readP s = some l ↔ mayL l = true ∧ s.length ≤ 16384 ∧ makeB l = s := by
  constructor
  · intro h
    unfold readP at h
    simp only at h
    split at h
    · cases h
    · rename_i hc
      have hl := Option.some.inj h
      obtain ⟨l', r', b', he⟩ : ∃ l' r' b', elS (beN (tkB 2 (drB 4 s))) [] (drB 2 (drB 4 s)) (badB 2 (drB 4 s) ((tkB 4 s != [100, 105, 114, 49]) || badB 4 s (decide (16384 < s.length)))) = (l', r', b') := ⟨_, _, _, rfl⟩
      rw [he] at hc hl
      simp only at hc hl
      subst hl
      simp only [Bool.or_eq_true, not_or, Bool.not_eq_true, Bool.not_eq_false', decide_eq_false_iff_not] at hc
      obtain ⟨⟨c1, c2⟩, c3⟩ := hc
      subst c1
      have hr : r' = [] := List.length_eq_zero_iff.1 (by omega)
      subst hr
      have hm : mayL l' = true := by simpa using c3
      generalize hb : badB 2 (drB 4 s) _ = b2 at he
      cases b2 with
      | true =>
        have := elS_bad (beN (tkB 2 (drB 4 s))) [] (drB 2 (drB 4 s))
        rw [he] at this; cases this
      | false =>
      obtain ⟨p1, q1, n1⟩ := bad_no hb
      rw [Bool.or_eq_false_iff] at p1
      obtain ⟨p0, q0, n0⟩ := bad_no p1.2
      have hmag : tkB 4 s = [100, 105, 114, 49] := by have := p1.1; simpa [bne] using this
      obtain ⟨e, e1, e2, _, e4⟩ := elS_back _ _ _ _ _ he
      rw [List.nil_append] at e1
      subst e1
      refine ⟨hm, by rw [decide_eq_false_iff_not] at p0; omega, ?_⟩
      have s1 : drB 4 s = tkB 2 (drB 4 s) ++ (l'.map entB).flatten := by
        have := q1; rw [e4, List.append_nil] at this; exact this
      have g : numB l'.length 2 = tkB 2 (drB 4 s) := by rw [e2]; exact numB_beN2 n1
      unfold makeB makeTo
      rw [List.take_length, g, List.append_assoc, ← s1, ← hmag, ← q0]
  · rintro ⟨hm, hl, rfl⟩
    have h256 := (mayL_all hm).1
    have e : makeB l = [100, 105, 114, 49] ++ (numB l.length 2 ++ ((l.map entB).flatten ++ [])) := by unfold makeB makeTo; rw [List.take_length]; simp
    obtain ⟨a1, a2, a3⟩ := tk_app (m := 4) (a := [100, 105, 114, 49]) (r := numB l.length 2 ++ ((l.map entB).flatten ++ [])) rfl
    obtain ⟨b1, b2, b3⟩ := tk_app (m := 2) (a := numB l.length 2) (r := (l.map entB).flatten ++ []) (numB_length _ _)
    have hd : decide (16384 < (makeB l).length) = false := decide_eq_false (by omega)
    have hne : (([100, 105, 114, 49] : List UInt8) != [100, 105, 114, 49]) = false := by decide
    unfold readP
    simp only [hd]
    rw [e]
    simp only [a1, a2, a3, b1, b2, b3, hne, Bool.or_false, beN_numB2 (show l.length < 65536 by omega), elS_of l [] [] fun x hx => mayE_raw (mayL_mem hm hx)]
    simp [hm]
end Go.Proofs.YtdpfanifagfciaaDoor
