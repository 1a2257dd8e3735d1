/- The walks of frame.Read's inner functions: take, count. -/
import Derived.Test.YtcapalofocmmoaaFrMake
import Derived.Test.YtcapalofocmmoaaRefHex
namespace Go.Proofs.Ytcapalofocmmoaa
open Go.RowKit
theorem cut_any (ao : Option Addr) (n q m : Nat) (h : m ≤ q) (w : World) : (Instr.slice 59 (.slice ao n q) none (some (.int .i64 (m : Int))) (some (.int .i64 (m : Int)))).run Try.prog w = .ok (.slice ao m m) w := by
  rw [run_slice_hm (P := Try.prog) w 59 ao n q ht_bytes .i64 .i64 (m : Int) (m : Int) (by omega) (by omega) (by omega), sz_byte]
  have e : (m : Int).toNat = m := by omega
  rw [e]
  show Result.ok (sliced ao 0 m m 1) w = _
  unfold sliced
  rw [map_zero, Nat.sub_zero, ite_self]
theorem back_any (b o n q m : Nat) (h : m ≤ n) (w : World) : (Instr.slice 59 (.slice (some ⟨b, o, none⟩) n q) (some (.int .i64 (m : Int))) none none).run Try.prog w = .ok (.slice (some (if q = m then ⟨b, o, none⟩ else ⟨b, o + m, none⟩)) (n - m) (q - m)) w := by
  have e : (m : Int).toNat = m := by omega
  rw [run_slice_l (P := Try.prog) w 59 (some ⟨b, o, none⟩) n q ht_bytes .i64 (m : Int) (by omega) (by omega), sz_byte, e]
  show Result.ok (sliced (some ⟨b, o, none⟩) m n q 1) w = _
  unfold sliced
  have ea : Addr.add ⟨b, o, none⟩ m = ⟨b, o + m, none⟩ := by
    unfold Addr.add
    split
    · rename_i h; rw [h]; rfl
    · rfl
  split
  · rfl
  · rw [Nat.mul_one, Option.map_some, ea]
/-- What is left to read lies in cell b5, whether all was well in cell b6. -/
structure RdS (w : World) (b5 b6 : Nat) (r : List UInt8) (bad : Bool) : Prop where
  row : ∃ g o q, w.cell? ⟨b5, 0, none⟩ = some (.slice (some ⟨g, o, none⟩) r.length q) ∧ SeqTy 5 IsByte w.heap (.slice (some ⟨g, o, none⟩) r.length q) r ∧ r.length ≤ q
  f5 : w.frozen? ⟨b5, 0, none⟩ = false
  c6 : w.cell? ⟨b6, 0, none⟩ = some (.bool bad)
  f6 : w.frozen? ⟨b6, 0, none⟩ = false
  t5 : typH w.heap b5 = some 59
  t6 : typH w.heap b6 = some 4
theorem RdS.keeps {w w' : World} {b5 b6 : Nat} {r : List UInt8} {bad : Bool} (s : RdS w b5 b6 r bad) (k : Keeps w w') : RdS w' b5 b6 r bad := by
  obtain ⟨⟨g, o, q, h1, h2, h3⟩, h4, h5, h6, h7, h8⟩ := s
  exact ⟨⟨g, o, q, keeps_cell k h1, h2.keeps k, h3⟩, keeps_froz k h1 h4, keeps_cell k h5, keeps_froz k h5 h6, typH_chg (T := fun _ => False) (Kept.any k) h7 (fun x => x), typH_chg (T := fun _ => False) (Kept.any k) h8 (fun x => x)⟩
theorem SeqTy.cut {α : Type} {E : TypeId} {R : Value → α → Prop} {h : Array Obj} {g o n q m : Nat} {l : List α} (s : SeqTy E R h (.slice (some ⟨g, o, none⟩) n q) l) (hm : m ≤ l.length) (hn : n = l.length) (c : Nat) : SeqTy E R h (.slice (some ⟨g, o, none⟩) m c) (l.take m) :=
  ⟨SeqAt.front s.1 hm c, fun p n' q' e h0 => by
    injection e with e1 e2 e3
    injection e1 with e1
    subst e1 e2
    exact s.2 _ _ _ rfl (by omega)⟩
theorem SeqTy.tail {α : Type} {E : TypeId} {R : Value → α → Prop} {h : Array Obj} {g o n q m : Nat} {l : List α} (s : SeqTy E R h (.slice (some ⟨g, o, none⟩) n q) l) (hm : m ≤ l.length) (hn : n = l.length) (p : Addr) (c : Nat) (hb : p.block = g) (hp : m < l.length → p = ⟨g, o + m, none⟩) : SeqTy E R h (.slice (some p) (l.length - m) c) (l.drop m) :=
  ⟨SeqAt.back s.1 p c hp, fun p' n' q' e h0 => by
    injection e with e1 e2 e3
    injection e1 with e1
    subst e1 e2
    rw [hb]
    exact s.2 ⟨g, o, none⟩ n q rfl (by omega)⟩
theorem rds_types {w : World} {b5 b6 : Nat} (t5 : typH w.heap b5 = some 59) (t6 : typH w.heap b6 = some 4) : ∀ b, b = b5 ∨ b = b6 → typH w.heap b ≠ some 5 := fun b e x => by
  rcases e with rfl | rfl
  · rw [t5] at x; exact absurd x (by decide)
  · rw [t6] at x; exact absurd x (by decide)
theorem rds_set5 {w : World} {b5 b6 g o n q : Nat} {r : List UInt8} {bad : Bool} {vo : Value} (c5 : w.cell? ⟨b5, 0, none⟩ = some vo) (f5 : w.frozen? ⟨b5, 0, none⟩ = false) (c6 : w.cell? ⟨b6, 0, none⟩ = some (.bool bad)) (f6 : w.frozen? ⟨b6, 0, none⟩ = false) (t5 : typH w.heap b5 = some 59) (t6 : typH w.heap b6 = some 4) (hne : b5 ≠ b6)
    (hn : n = r.length) (hs : SeqTy 5 IsByte w.heap (.slice (some ⟨g, o, none⟩) n q) r) (hq : n ≤ q) : RdS (w.setCell ⟨b5, 0, none⟩ (.slice (some ⟨g, o, none⟩) n q)) b5 b6 r bad := by
  subst hn
  have hc : Chg (fun x => x = b5 ∨ x = b6) w (w.setCell ⟨b5, 0, none⟩ (.slice (some ⟨g, o, none⟩) r.length q)) := Chg.setCell (Chg.refl _ w) (p := ⟨b5, 0, none⟩) (fun _ => .inl rfl) _
  refine ⟨⟨g, o, q, ?_, hs.chg hc (rds_types t5 t6), hq⟩, ?_, ?_, ?_, by rw [typH_set]; exact t5, by rw [typH_set]; exact t6⟩
  · rw [cell_of] at c5 ⊢
    rw [cellH_set _ _ _ _ _ _ _ c5, if_pos ⟨rfl, rfl⟩]
  · rw [froz_of] at f5 ⊢
    rw [frozH_set]; exact f5
  · rw [cell_of] at c5 c6 ⊢
    rw [cellH_set _ _ _ _ _ _ _ c5, if_neg (fun x => hne x.1)]; exact c6
  · rw [froz_of] at f6 ⊢
    rw [frozH_set]; exact f6
theorem rds_set6 {w : World} {b5 b6 : Nat} {r : List UInt8} {bad : Bool} (h : RdS w b5 b6 r bad) (hne : b5 ≠ b6) (x : Bool) : RdS (w.setCell ⟨b6, 0, none⟩ (.bool x)) b5 b6 r x := by
  obtain ⟨⟨g, o, q, c5, hs, hq⟩, f5, c6, f6, t5, t6⟩ := h
  have hc : Chg (fun x => x = b5 ∨ x = b6) w (w.setCell ⟨b6, 0, none⟩ (.bool x)) := Chg.setCell (Chg.refl _ w) (p := ⟨b6, 0, none⟩) (fun _ => .inr rfl) _
  refine ⟨⟨g, o, q, ?_, hs.chg hc (rds_types t5 t6), hq⟩, ?_, ?_, ?_, by rw [typH_set]; exact t5, by rw [typH_set]; exact t6⟩
  · rw [cell_of] at c5 c6 ⊢
    rw [cellH_set _ _ _ _ _ _ _ c6, if_neg (fun x => hne x.1.symm)]; exact c5
  · rw [froz_of] at f5 ⊢
    rw [frozH_set]; exact f5
  · rw [cell_of] at c6 ⊢
    rw [cellH_set _ _ _ _ _ _ _ c6, if_pos ⟨rfl, rfl⟩]
  · rw [froz_of] at f6 ⊢
    rw [frozH_set]; exact f6
set_option maxRecDepth 100000 in
set_option maxHeartbeats 4000000 in
theorem frtake_any (m b5 b6 : Nat) (r : List UInt8) (bad : Bool) (w : World) (h : RdS w b5 b6 r bad) (hne : b5 ≠ b6) (hm : m ≤ 4294967296) :
    Calls Try.prog 46 #[.int .i64 (m : Int), .pointer (some ⟨b5, 0, none⟩), .pointer (some ⟨b6, 0, none⟩)] w fun e w' => ∃ v, e = .returned v ∧ RdS w' b5 b6 (if m ≤ r.length then r.drop m else r) (bad || !decide (m ≤ r.length)) ∧ SeqTy 5 IsByte w'.heap v (if m ≤ r.length then r.take m else []) ∧ Chg (fun x => x = b5 ∨ x = b6) w w' := by
  obtain ⟨⟨g, o, q, c5, hs, hq⟩, f5, c6, f6, t5, t6⟩ := h
  have HS := Lib.hid hs
  have T5 := Lib.hid t5
  have T6 := Lib.hid t6
  have hrl : r.length ≤ 9223372036854775807 := let ⟨⟨_, _, _, x, _⟩, _⟩ := hs; x
  clear hs t5 t6
  by_cases hle : m ≤ r.length
  · have g1 : ¬ ((r.length : Int) < (m : Int)) := by omega
    have g2 : decide ((r.length : Int) < (m : Int)) = false := decide_eq_false g1
    have rc := fun wx => cut_any (some ⟨g, o, none⟩) r.length q m (by omega) wx
    have rb := fun wx => back_any g o r.length q m hle wx
    generalize hp : (if q = m then (⟨g, o, none⟩ : Addr) else ⟨g, o + m, none⟩) = p at rb
    have HP := Lib.hid hp
    clear hp
    have HB : Hid (p.block = g) := by show _ = _; rw [← HP.out]; split <;> rfl
    have HPA : Hid (m < r.length → p = ⟨g, o + m, none⟩) := fun h => by rw [← HP.out, if_neg (by omega)]
    rw [if_pos hle, if_pos hle, decide_eq_true hle]
    go_enter Try.func46, Try.ntmps46
    go_wp2_with fail
    go_ret
    have hc : Chg (fun x => x = b5 ∨ x = b6) w (w.setCell ⟨b5, 0, none⟩ (.slice (some p) (r.length - m) (q - m))) := Chg.setCell (Chg.refl _ w) (p := ⟨b5, 0, none⟩) (fun _ => .inl rfl) _
    have h2 := HS.out.tail (m := m) hle rfl p (q - m) HB.out HPA.out
    have HPS : Hid (p = ⟨p.block, p.off, none⟩) := by show _ = _; rw [← HP.out]; split <;> rfl
    obtain ⟨pb, po, ps⟩ := p
    have hps : ps = none := by have := HPS.out; injection this
    subst hps
    exact ⟨_, rfl, by simpa using rds_set5 c5 f5 c6 f6 T5.out T6.out hne (by rw [List.length_drop]) h2 (by omega), (HS.out.cut hle rfl m).chg hc (rds_types T5.out T6.out), hc⟩
  · have g1 : (r.length : Int) < (m : Int) := by omega
    have g2 : decide ((r.length : Int) < (m : Int)) = true := decide_eq_true g1
    rw [if_neg hle, if_neg hle, decide_eq_false hle]
    have HR : Hid (RdS (w.setCell ⟨b6, 0, none⟩ (.bool true)) b5 b6 r true) := rds_set6 ⟨⟨g, o, q, c5, HS.out, hq⟩, f5, c6, f6, T5.out, T6.out⟩ hne true
    go_enter Try.func46, Try.ntmps46
    go_wp2_with fail
    go_ret
    exact ⟨_, rfl, by simpa using HR.out, ⟨SeqAt.nil _ _, fun p n q e => by cases e⟩, Chg.setCell (Chg.refl _ w) (p := ⟨b6, 0, none⟩) (fun _ => .inr rfl) _⟩
/-- A number out of bytes. -/
def beN (l : List UInt8) : Nat := l.foldl (fun a c => a * 256 + c.toNat) 0
theorem beN_snoc (l : List UInt8) (c : UInt8) : beN (l ++ [c]) = beN l * 256 + c.toNat := by unfold beN; rw [List.foldl_append]; rfl
theorem fold_lt (l : List UInt8) : ∀ a, l.foldl (fun a c => a * 256 + c.toNat) a < (a + 1) * 256 ^ l.length := by
  induction l with
  | nil => intro a; simp
  | cons c l ih =>
    intro a
    refine Nat.lt_of_lt_of_le (ih (a * 256 + c.toNat)) ?_
    rw [List.length_cons, Nat.pow_succ, Nat.mul_comm (256 ^ l.length) 256, ← Nat.mul_assoc]
    exact Nat.mul_le_mul_right _ (by have := UInt8.toNat_lt c; omega)
theorem beN_lt (l : List UInt8) : beN l < 256 ^ l.length := by
  have := fold_lt l 0
  unfold beN
  simpa using this
set_option maxRecDepth 100000 in
set_option maxHeartbeats 4000000 in
theorem frcount_any (m b5 b6 b7 : Nat) (r : List UInt8) (bad : Bool) (w : World) (h : RdS w b5 b6 r bad) (hne : b5 ≠ b6) (hm : m ≤ 4) (h7 : w.cell? ⟨b7, 0, none⟩ = some (.func (.func 46) #[] #[.pointer (some ⟨b5, 0, none⟩), .pointer (some ⟨b6, 0, none⟩)])) :
    Calls Try.prog 47 #[.int .i64 (m : Int), .pointer (some ⟨b7, 0, none⟩)] w fun e w' => e = .returned (.int .i64 (beN (if m ≤ r.length then r.take m else []) : Int)) ∧ RdS w' b5 b6 (if m ≤ r.length then r.drop m else r) (bad || !decide (m ≤ r.length)) ∧ Chg (fun x => x = b5 ∨ x = b6) w w' := by
  have HTK := Lib.hid (frtake_any m b5 b6 r bad w h hne (by omega))
  have HL0 : Hid ((if m ≤ r.length then r.take m else []).length ≤ 4) := by
    show _ ≤ _
    split
    · rw [List.length_take]; omega
    · simp
  generalize (if m ≤ r.length then r.drop m else r) = r' at *
  generalize (bad || !decide (m ≤ r.length)) = bad' at *
  generalize (if m ≤ r.length then r.take m else []) = L at *
  clear h
  go_enter Try.func47, Try.ntmps47
  go_wp2_with fail
  refine Calls.mono HTK.out ?_
  rintro e w1 ⟨v, rfl, hr, hs, hc⟩
  have HR := Lib.hid hr
  have HC := Lib.hid hc
  have HS := Lib.hid hs.1
  obtain ⟨pv, qv, rfl⟩ := seq_shape hs.1
  clear hr hc hs h7
  have hll := HL0.out
  go_wp2_with fail
  go_loopw [4, 11] (fun n i wr => ∃ k : Nat, k ≤ L.length ∧ i = .int .i64 k ∧ n = .int .i64 (beN (L.take k) : Int) ∧ w1 = wr) (fun _ i _ => L.length - (intOf i).toNat)
  case atStart => exact ⟨0, by omega, rfl, rfl, rfl⟩
  case round =>
    obtain ⟨k, hk, rfl, rfl, rfl⟩ := hrel
    by_cases hlt : k < L.length
    · have i1 : (k : Int) < (L.length : Int) := by omega
      have i0 : (0 : Int) ≤ (k : Int) := by omega
      obtain ⟨b, off, cp, u, e5, d1, r1⟩ := seq_cell HS.out hlt
      injection e5 with e6 e7 e8
      subst e6 e8
      unfold IsByte at r1
      subst r1
      have HT : Hid (beN (L.take (k + 1)) = beN (L.take k) * 256 + L[k].toNat) := by show _ = _; rw [List.take_succ_eq_append_getElem hlt, beN_snoc]
      have hbl : beN (L.take k) < 4294967296 := by
        have h1 := beN_lt (L.take k)
        have h2 : (L.take k).length ≤ 4 := by rw [List.length_take]; omega
        have h3 : 256 ^ (L.take k).length ≤ 256 ^ 4 := Nat.pow_le_pow_right (by decide) h2
        omega
      have hb8 := UInt8.toNat_lt L[k]
      generalize beN (L.take k) = x at *
      generalize L[k].toNat = y at *
      have HO : Hid (bits .or .i64 ((x : Int) * 256) (y : Int) = ((x * 256 + y : Nat) : Int)) := by
        show _ = _
        have e1 : (x : Int) * 256 = ((x * 256 : Nat) : Int) := by omega
        rw [e1, or_i64 _ _ (by omega) (by omega)]
        have e2 : x * 256 ||| y = x * 256 + y := by
          have := Nat.two_pow_add_eq_or_of_lt (i := 8) (b := y) (by omega) x
          rw [Nat.mul_comm x 256]; exact this.symm
        rw [e2]
      clear e7
      go_wp2_with fail
      rw [HO.out]
      exact ⟨⟨k + 1, by omega, by go_num, by rw [HT.out], by first | rfl | trivial⟩, by simp [intOf]; omega⟩
    · obtain rfl : k = L.length := by omega
      rw [List.take_length]
      go_wp2_with fail
      go_ret
      exact ⟨rfl, HR.out, HC.out⟩
end Go.Proofs.Ytcapalofocmmoaa
