/- The walks of node.Read's inner functions: take, number. -/
import Derived.Test.YtdpfanifagfciaaDoorNodeB
import Derived.Test.YtdpfanifagfciaaDoorAppAt
import Derived.Test.YtdpfanifagfciaaDoorConv
namespace Go.Proofs.YtdpfanifagfciaaDoor
open Go.RowKit
theorem ht_bytes : Tryd.prog.underlying 45 = some (.slice (Tryd.prog.elem 45)) := by kernel_rfl
theorem sz_byte (w : World) : (sizeOf (Tryd.prog.elem 45)).run Tryd.prog w = .ok 1 w := by kernel_rfl
theorem map_zero (ao : Option Addr) : ao.map (·.add (0 * 1)) = ao := by
  cases ao with
  | none => rfl
  | some a => obtain ⟨b, o, s⟩ := a; cases s <;> simp [Addr.add]
theorem SeqAt.front {α : Type} {R : Value → α → Prop} {h : Array Obj} {a : Option Addr} {n c k : Nat} {l : List α} (s : SeqAt R h (.slice a n c) l) (hk : k ≤ l.length) (c' : Nat) : SeqAt R h (.slice a k c') (l.take k) := by
  obtain ⟨a', q, e, h1, h2⟩ := s
  injection e with e1 e2 e3
  subst e1
  refine ⟨a, c', by rw [List.length_take, Nat.min_eq_left hk], by rw [List.length_take]; omega, fun i hi => ?_⟩
  rw [List.length_take] at hi
  obtain ⟨b, off, u, e4, e5, e6⟩ := h2 i (by omega)
  exact ⟨b, off, u, e4, e5, by rw [List.getElem_take]; exact e6⟩
theorem SeqAt.back {α : Type} {R : Value → α → Prop} {h : Array Obj} {b o n c k : Nat} {l : List α} (s : SeqAt R h (.slice (some ⟨b, o, none⟩) n c) l) (p : Addr) (c' : Nat) (hp : k < l.length → p = ⟨b, o + k, none⟩) : SeqAt R h (.slice (some p) (l.length - k) c') (l.drop k) := by
  obtain ⟨a', q, e, h1, h2⟩ := s
  injection e with e1 e2 e3
  subst e1
  refine ⟨some p, c', by rw [List.length_drop], by rw [List.length_drop]; omega, fun i hi => ?_⟩
  rw [List.length_drop] at hi
  obtain ⟨b', off, u, e4, e5, e6⟩ := h2 (k + i) (by omega)
  injection e4 with e4
  injection e4 with e7 e8 _
  subst e7 e8
  exact ⟨b, o + k, u, by rw [hp (by omega)], by rw [Nat.add_assoc]; exact e5, by rw [List.getElem_drop]; exact e6⟩
set_option maxRecDepth 100000 in
theorem or_i64 (a b : Nat) (ha : a < 4611686018427387904) (hb : b < 4611686018427387904) : bits .or .i64 (a : Int) (b : Int) = ((a ||| b : Nat) : Int) := by
  have h : a ||| b < 4611686018427387904 := Nat.or_lt_two_pow (n := 62) ha hb
  have e : (2 : Nat) ^ IntKind.i64.bits = 18446744073709551616 := rfl
  exact bits_nat .or .i64 a b _ (by omega) (by omega) (· ||| ·) (fun x y => BitVec.toNat_or x y) rfl (IntWalk.i64_in _ (by omega))
theorem cut_any (ao : Option Addr) (n q m : Nat) (h : m ≤ q) (w : World) : (Instr.slice 45 (.slice ao n q) none (some (.int .i64 (m : Int))) (some (.int .i64 (m : Int)))).run Tryd.prog w = .ok (.slice ao m m) w := by
  rw [run_slice_hm (P := Tryd.prog) w 45 ao n q ht_bytes .i64 .i64 (m : Int) (m : Int) (by omega) (by omega) (by omega), sz_byte]
  have e : (m : Int).toNat = m := by omega
  rw [e]
  show Result.ok (sliced ao 0 m m 1) w = _
  unfold sliced
  rw [map_zero, Nat.sub_zero, ite_self]
theorem back_any (ao : Option Addr) (n q m : Nat) (h : m ≤ n) (w : World) : (Instr.slice 45 (.slice ao n q) (some (.int .i64 (m : Int))) none none).run Tryd.prog w = .ok (.slice (if q = m then ao else ao.map (·.add m)) (n - m) (q - m)) w := by
  have e : (m : Int).toNat = m := by omega
  rw [run_slice_l (P := Tryd.prog) w 45 ao n q ht_bytes .i64 (m : Int) (by omega) (by omega), sz_byte, e]
  show Result.ok (sliced ao m n q 1) w = _
  unfold sliced
  rw [Nat.mul_one]
/-- What is left to read lies in cell b5, whether all was well in cell b6. -/
structure RdS (w : World) (b5 b6 : Nat) (r : List UInt8) (bad : Bool) : Prop where
  row : ∃ p q, w.cell? ⟨b5, 0, none⟩ = some (.slice p r.length q) ∧ SeqTy 5 IsByte w.heap (.slice p r.length q) r ∧ r.length ≤ q
  f5 : w.frozen? ⟨b5, 0, none⟩ = false
  c6 : w.cell? ⟨b6, 0, none⟩ = some (.bool bad)
  f6 : w.frozen? ⟨b6, 0, none⟩ = false
  t5 : typH w.heap b5 = some 45
  t6 : typH w.heap b6 = some 4
theorem RdS.keeps {w w' : World} {b5 b6 : Nat} {r : List UInt8} {bad : Bool} (s : RdS w b5 b6 r bad) (k : Keeps w w') : RdS w' b5 b6 r bad := by
  obtain ⟨⟨p, q, h1, h2, h3⟩, h4, h5, h6, h7, h8⟩ := s
  exact ⟨⟨p, q, keeps_cell k h1, h2.keeps k, h3⟩, keeps_froz k h1 h4, keeps_cell k h5, keeps_froz k h5 h6, typH_chg (T := fun _ => False) (Kept.any k) h7 (fun x => x), typH_chg (T := fun _ => False) (Kept.any k) h8 (fun x => x)⟩
theorem SeqTy.cut {α : Type} {E : TypeId} {R : Value → α → Prop} {h : Array Obj} {p : Option Addr} {n q m : Nat} {l : List α} (s : SeqTy E R h (.slice p n q) l) (hm : m ≤ l.length) (hn : n = l.length) (c : Nat) : SeqTy E R h (.slice p m c) (l.take m) :=
  ⟨SeqAt.front s.1 hm c, fun p n' q' e h0 => by
    injection e with e1 e2 e3
    subst e1 e2
    exact s.2 _ _ _ rfl (by omega)⟩
theorem SeqTy.tail {α : Type} {E : TypeId} {R : Value → α → Prop} {h : Array Obj} {ao : Option Addr} {n q m : Nat} {l : List α} (s : SeqTy E R h (.slice ao n q) l) (hm : m ≤ l.length) (hn : n = l.length) (hq : n ≤ q) : SeqTy E R h (.slice (if q = m then ao else ao.map (·.add m)) (l.length - m) (q - m)) (l.drop m) := by
  rcases Nat.lt_or_ge m l.length with hlt | hge
  · obtain ⟨a, c, e, h1, h2⟩ := s.1
    obtain ⟨b, off, u, e4, e5, e6⟩ := h2 m hlt
    injection e with e1 e2 e3
    subst e3
    rw [if_neg (by omega)]
    rw [e1, e4]
    have ea : Addr.add ⟨b, off, none⟩ m = ⟨b, off + m, none⟩ := by
      unfold Addr.add
      split
      · rename_i h; rw [h]; rfl
      · rfl
    rw [Option.map_some, ea]
    have s1 : SeqAt R h (.slice (some ⟨b, off, none⟩) n q) l := by rw [← e4, ← e1]; exact s.1
    refine ⟨SeqAt.back s1 _ _ (fun _ => rfl), fun p' n' q' e' h0 => ?_⟩
    injection e' with e7 _ _
    injection e7 with e7
    subst e7
    exact s.2 ⟨b, off, none⟩ n q (by rw [e1, e4]) (by omega)
  · have e0 : l.drop m = [] := List.drop_eq_nil_of_le hge
    have e1 : l.length - m = 0 := by omega
    rw [e0, e1]
    refine ⟨⟨_, _, rfl, by simp, fun i hi => absurd hi (by simp)⟩, fun p n q e h0 => ?_⟩
    injection e with _ e2 _
    omega
theorem rds_types {w : World} {b5 b6 : Nat} (t5 : typH w.heap b5 = some 45) (t6 : typH w.heap b6 = some 4) : ∀ b, b = b5 ∨ b = b6 → typH w.heap b ≠ some 5 := fun b e x => by
  rcases e with rfl | rfl
  · rw [t5] at x; exact absurd x (by decide)
  · rw [t6] at x; exact absurd x (by decide)
theorem rds_set5 {w : World} {b5 b6 n q : Nat} {p : Option Addr} {r : List UInt8} {bad : Bool} {vo : Value} (c5 : w.cell? ⟨b5, 0, none⟩ = some vo) (f5 : w.frozen? ⟨b5, 0, none⟩ = false) (c6 : w.cell? ⟨b6, 0, none⟩ = some (.bool bad)) (f6 : w.frozen? ⟨b6, 0, none⟩ = false) (t5 : typH w.heap b5 = some 45) (t6 : typH w.heap b6 = some 4) (hne : b5 ≠ b6)
    (hn : n = r.length) (hs : SeqTy 5 IsByte w.heap (.slice p n q) r) (hq : n ≤ q) : RdS (w.setCell ⟨b5, 0, none⟩ (.slice p n q)) b5 b6 r bad := by
  subst hn
  have hc : Chg (fun x => x = b5 ∨ x = b6) w (w.setCell ⟨b5, 0, none⟩ (.slice p r.length q)) := Chg.setCell (Chg.refl _ w) (p := ⟨b5, 0, none⟩) (fun _ => .inl rfl) _
  refine ⟨⟨p, q, ?_, hs.chg hc (rds_types t5 t6), hq⟩, ?_, ?_, ?_, by rw [typH_set]; exact t5, by rw [typH_set]; exact t6⟩
  · rw [cell_of] at c5 ⊢
    rw [cellH_set _ _ _ _ _ _ _ c5, if_pos ⟨rfl, rfl⟩]
  · rw [froz_of] at f5 ⊢
    rw [frozH_set]; exact f5
  · rw [cell_of] at c5 c6 ⊢
    rw [cellH_set _ _ _ _ _ _ _ c5, if_neg (fun x => hne x.1)]; exact c6
  · rw [froz_of] at f6 ⊢
    rw [frozH_set]; exact f6
theorem rds_set6 {w : World} {b5 b6 : Nat} {r : List UInt8} {bad : Bool} (h : RdS w b5 b6 r bad) (hne : b5 ≠ b6) (x : Bool) : RdS (w.setCell ⟨b6, 0, none⟩ (.bool x)) b5 b6 r x := by
  obtain ⟨⟨p, q, c5, hs, hq⟩, f5, c6, f6, t5, t6⟩ := h
  have hc : Chg (fun x => x = b5 ∨ x = b6) w (w.setCell ⟨b6, 0, none⟩ (.bool x)) := Chg.setCell (Chg.refl _ w) (p := ⟨b6, 0, none⟩) (fun _ => .inr rfl) _
  refine ⟨⟨p, q, ?_, hs.chg hc (rds_types t5 t6), hq⟩, ?_, ?_, ?_, by rw [typH_set]; exact t5, by rw [typH_set]; exact t6⟩
  · rw [cell_of] at c5 c6 ⊢
    rw [cellH_set _ _ _ _ _ _ _ c6, if_neg (fun x => hne x.1.symm)]; exact c5
  · rw [froz_of] at f5 ⊢
    rw [frozH_set]; exact f5
  · rw [cell_of] at c6 ⊢
    rw [cellH_set _ _ _ _ _ _ _ c6, if_pos ⟨rfl, rfl⟩]
  · rw [froz_of] at f6 ⊢
    rw [frozH_set]; exact f6
/-- The bytes that are taken, what is left, whether all is well. -/
def tkB (m : Nat) (r : List UInt8) : List UInt8 := if m ≤ r.length then r.take m else []
def drB (m : Nat) (r : List UInt8) : List UInt8 := if m ≤ r.length then r.drop m else []
def badB (m : Nat) (r : List UInt8) (b : Bool) : Bool := b || !decide (m ≤ r.length)
set_option maxRecDepth 100000 in
set_option maxHeartbeats 4000000 in
theorem ntake_any (m b5 b6 : Nat) (r : List UInt8) (bad : Bool) (w : World) (h : RdS w b5 b6 r bad) (hne : b5 ≠ b6) (hm : m ≤ 4294967296) :
    Calls Tryd.prog 48 #[.int .i64 (m : Int), .pointer (some ⟨b5, 0, none⟩), .pointer (some ⟨b6, 0, none⟩)] w fun e w' => ∃ v, e = .returned v ∧ RdS w' b5 b6 (drB m r) (badB m r bad) ∧ SeqTy 5 IsByte w'.heap v (tkB m r) ∧ Chg (fun x => x = b5 ∨ x = b6) w w' := by
  have HRD := Lib.hid h
  obtain ⟨⟨po, q, c5, hs, hq⟩, f5, c6, f6, t5, t6⟩ := h
  have HS := Lib.hid hs
  have T5 := Lib.hid t5
  have T6 := Lib.hid t6
  have hrl : r.length ≤ 9223372036854775807 := let ⟨⟨_, _, _, x, _⟩, _⟩ := hs; x
  clear hs t5 t6
  unfold drB badB tkB
  by_cases hle : m ≤ r.length
  · have g1 : ¬ ((r.length : Int) < (m : Int)) := by omega
    have g2 : decide ((r.length : Int) < (m : Int)) = false := decide_eq_false g1
    have rc := fun wx => cut_any po r.length q m (by omega) wx
    have rb := fun wx => back_any po r.length q m hle wx
    generalize hp : (if q = m then po else po.map (·.add m)) = p2 at rb
    have HP := Lib.hid hp
    clear hp
    rw [if_pos hle, if_pos hle, decide_eq_true hle]
    go_enter Tryd.func48, Tryd.ntmps48
    go_wp2_with fail
    go_ret
    have hc : Chg (fun x => x = b5 ∨ x = b6) w (w.setCell ⟨b5, 0, none⟩ (.slice p2 (r.length - m) (q - m))) := Chg.setCell (Chg.refl _ w) (p := ⟨b5, 0, none⟩) (fun _ => .inl rfl) _
    have h2 := HS.out.tail (m := m) hle rfl hq
    rw [HP.out] at h2
    exact ⟨_, rfl, by simpa using rds_set5 c5 f5 c6 f6 T5.out T6.out hne (by rw [List.length_drop]) h2 (by omega), (HS.out.cut hle rfl m).chg hc (rds_types T5.out T6.out), hc⟩
  · have g1 : (r.length : Int) < (m : Int) := by omega
    have g2 : decide ((r.length : Int) < (m : Int)) = true := decide_eq_true g1
    rw [if_neg hle, if_neg hle, decide_eq_false hle]
    have h6 := rds_set6 HRD.out hne true
    have HR : Hid (RdS ((w.setCell ⟨b6, 0, none⟩ (.bool true)).setCell ⟨b5, 0, none⟩ (.slice none 0 0)) b5 b6 [] true) := by
      obtain ⟨⟨p7, q7, d5, _, _⟩, d6, d7, d8, d9, d10⟩ := h6
      exact rds_set5 d5 d6 d7 d8 d9 d10 hne rfl ⟨SeqAt.nil _ _, fun p n q e => by cases e⟩ (Nat.le_refl _)
    have e5 : (w.setCell ⟨b6, 0, none⟩ (.bool true)).cell? ⟨b5, 0, none⟩ = some (.slice po r.length q) := by
      rw [cell_of] at c5 c6 ⊢
      rw [cellH_set _ _ _ _ _ _ _ c6, if_neg (fun x => hne x.1.symm)]; exact c5
    have e6 : (w.setCell ⟨b6, 0, none⟩ (.bool true)).frozen? ⟨b5, 0, none⟩ = false := by
      rw [froz_of] at f5 ⊢; rw [frozH_set]; exact f5
    go_enter Tryd.func48, Tryd.ntmps48
    go_wp2_with fail
    go_ret
    exact ⟨_, rfl, by simpa using HR.out, ⟨SeqAt.nil _ _, fun p n q e => by cases e⟩, Chg.setCell (Chg.setCell (Chg.refl _ w) (p := ⟨b6, 0, none⟩) (fun _ => .inr rfl) _) (p := ⟨b5, 0, none⟩) (fun _ => .inl rfl) _⟩
/-- A number out of bytes. -/
def beN (l : List UInt8) : Nat := l.foldl (fun a c => a * 256 + c.toNat) 0
theorem beN_snoc (l : List UInt8) (c : UInt8) : beN (l ++ [c]) = beN l * 256 + c.toNat := by unfold beN; rw [List.foldl_append]; rfl
theorem fold_lt (l : List UInt8) : ∀ a, l.foldl (fun a c => a * 256 + c.toNat) a < (a + 1) * 256 ^ l.length := by
  induction l with
  | nil => intro a; simp
  | cons c l ih =>
    intro a
    refine Nat.lt_of_lt_of_le (ih (a * 256 + c.toNat)) ?_
    rw [List.length_cons, Nat.pow_succ, Nat.mul_comm (256 ^ l.length) 256, ← Nat.mul_assoc]
    exact Nat.mul_le_mul_right _ (by have := UInt8.toNat_lt c; omega)
theorem beN_lt (l : List UInt8) : beN l < 256 ^ l.length := by
  have := fold_lt l 0
  unfold beN
  simpa using this
set_option maxRecDepth 100000 in
set_option maxHeartbeats 4000000 in
theorem nnum_any (m b5 b6 b7 : Nat) (r : List UInt8) (bad : Bool) (w : World) (h : RdS w b5 b6 r bad) (hne : b5 ≠ b6) (hm : m ≤ 4) (h7 : w.cell? ⟨b7, 0, none⟩ = some (.func (.func 48) #[] #[.pointer (some ⟨b5, 0, none⟩), .pointer (some ⟨b6, 0, none⟩)])) :
    Calls Tryd.prog 49 #[.int .i64 (m : Int), .pointer (some ⟨b7, 0, none⟩)] w fun e w' => e = .returned (.int .i64 (beN (tkB m r) : Int)) ∧ RdS w' b5 b6 (drB m r) (badB m r bad) ∧ Chg (fun x => x = b5 ∨ x = b6) w w' := by
  have HTK := Lib.hid (ntake_any m b5 b6 r bad w h hne (by omega))
  have HL0 : Hid ((tkB m r).length ≤ 4) := by
    show _ ≤ _
    unfold tkB
    split
    · rw [List.length_take]; omega
    · simp
  generalize (drB m r) = r' at *
  generalize (badB m r bad) = bad' at *
  generalize (tkB m r) = L at *
  clear h
  go_enter Tryd.func49, Tryd.ntmps49
  go_wp2_with fail
  refine Calls.mono HTK.out ?_
  rintro e w1 ⟨v, rfl, hr, hs, hc⟩
  have HR := Lib.hid hr
  have HC := Lib.hid hc
  have HS := Lib.hid hs.1
  obtain ⟨pv, qv, rfl⟩ := seq_shape hs.1
  clear hr hc hs h7
  have hll := HL0.out
  go_wp2_with fail
  go_loopw [4, 11] (fun n i wr => ∃ k : Nat, k ≤ L.length ∧ i = .int .i64 k ∧ n = .int .i64 (beN (L.take k) : Int) ∧ w1 = wr) (fun _ i _ => L.length - (intOf i).toNat)
  case atStart => exact ⟨0, by omega, rfl, rfl, rfl⟩
  case round =>
    obtain ⟨k, hk, rfl, rfl, rfl⟩ := hrel
    by_cases hlt : k < L.length
    · have i1 : (k : Int) < (L.length : Int) := by omega
      have i0 : (0 : Int) ≤ (k : Int) := by omega
      obtain ⟨b, off, cp, u, e5, d1, r1⟩ := seq_cell HS.out hlt
      injection e5 with e6 e7 e8
      subst e6 e8
      unfold IsByte at r1
      subst r1
      have HT : Hid (beN (L.take (k + 1)) = beN (L.take k) * 256 + L[k].toNat) := by show _ = _; rw [List.take_succ_eq_append_getElem hlt, beN_snoc]
      have hbl : beN (L.take k) < 4294967296 := by
        have h1 := beN_lt (L.take k)
        have h2 : (L.take k).length ≤ 4 := by rw [List.length_take]; omega
        have h3 : 256 ^ (L.take k).length ≤ 256 ^ 4 := Nat.pow_le_pow_right (by decide) h2
        omega
      have hb8 := UInt8.toNat_lt L[k]
      generalize beN (L.take k) = x at *
      generalize L[k].toNat = y at *
      have HO : Hid (bits .or .i64 ((x : Int) * 256) (y : Int) = ((x * 256 + y : Nat) : Int)) := by
        show _ = _
        have e1 : (x : Int) * 256 = ((x * 256 : Nat) : Int) := by omega
        rw [e1, or_i64 _ _ (by omega) (by omega)]
        have e2 : x * 256 ||| y = x * 256 + y := by
          have := Nat.two_pow_add_eq_or_of_lt (i := 8) (b := y) (by omega) x
          rw [Nat.mul_comm x 256]; exact this.symm
        rw [e2]
      clear e7
      go_wp2_with fail
      rw [HO.out]
      exact ⟨⟨k + 1, by omega, by go_num, by rw [HT.out], by first | rfl | trivial⟩, by simp [intOf]; omega⟩
    · obtain rfl : k = L.length := by omega
      rw [List.take_length]
      go_wp2_with fail
      go_ret
      exact ⟨rfl, HR.out, HC.out⟩
end Go.Proofs.YtdpfanifagfciaaDoor
