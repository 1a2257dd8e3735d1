/- The walk of the law CodeEncodes. -/
import Derived.Test.YtllfhaocdknejaaCodeRf
namespace Go.Proofs.Ytllfhaocdknejaa
open Go.RowKit
attribute [local go_sem ↓] Go.wp_at_zero Go.wp_at_succ
theorem text_cellP {w : World} {p : Option Addr} {n c : Nat} {l : List ByteArray} (h : TextsAt w.heap (.slice p n c) l) {i : Nat} (hi : i < l.length) : ∃ b off, p = some ⟨b, off, none⟩ ∧ w.cell? ⟨b, off + i, none⟩ = some (.string l[i]) := by
  obtain ⟨b, off, c', u, e, c1, r1⟩ := seq_cell h hi
  injection e with e1 _ _
  unfold IsText at r1
  exact ⟨b, off, e1, by rw [c1, r1]⟩
set_option maxRecDepth 100000 in
set_option maxHeartbeats 4000000 in
theorem csame_any (va vb : Value) (l : List ByteArray) (w : World) (ha : TextsAt w.heap va l) (hb : TextsAt w.heap vb l) : Calls Try.prog 6 #[va, vb] w fun e w' => e = .returned (.bool true) ∧ ∃ n, w' = w.drewN n := by
  have hl63 : l.length ≤ 9223372036854775807 := let ⟨_, _, _, x, _⟩ := ha; x
  obtain ⟨pa, qa, rfl⟩ := seq_shape ha
  obtain ⟨pb, qb, rfl⟩ := seq_shape hb
  have HA := Lib.hid ha
  have HB := Lib.hid hb
  clear ha hb
  go_enter Try.func6, Try.ntmps6
  go_wp2_with fail
  go_loopw [5] (fun i wr => ∃ k : Nat, k ≤ l.length ∧ i = .int .i64 k ∧ ∃ n, wr = w.drewN n) (fun i _ => l.length - (intOf i).toNat)
  case atStart => exact ⟨0, by omega, rfl, 0, rfl⟩
  case round =>
    obtain ⟨k, hk, rfl, n, rfl⟩ := hrel
    by_cases hlt : k < l.length
    · have hlt64 : (k : Int) < (l.length : Int) := by omega
      have hk0 : (0 : Int) ≤ (k : Int) := by omega
      obtain ⟨b1, o1, rfl, d1⟩ := text_cellP HA.out hlt
      obtain ⟨b2, o2, rfl, d2⟩ := text_cellP HB.out hlt
      have m1 : ∀ n, (w.drewN n).cell? ⟨b1, o1 + k, none⟩ = some (.string l[k]) := fun n => d1
      have m2 : ∀ n, (w.drewN n).cell? ⟨b2, o2 + k, none⟩ = some (.string l[k]) := fun n => d2
      clear d1 d2
      generalize l[k] = s at *
      go_wp2_with fail
      go_quiet (fail)
      go_wp2
      exact ⟨⟨k + 1, by omega, by go_num, _, (by first | rfl | exact drew_two _ _ _)⟩, by simp [intOf]; omega⟩
    · obtain rfl : k = l.length := by omega
      go_wp2
      go_ret
      exact ⟨rfl, _, rfl⟩
set_option maxRecDepth 100000 in
set_option maxHeartbeats 4000000 in
theorem cencodes_any (k n : Int) (s : ByteArray) (m : Int) (w : World) (hs : s.size ≤ maxLen) (hm : -9223372036854775808 ≤ m ∧ m ≤ 9223372036854775807) :
    Calls Try.prog 3 #[.agg #[.int .i64 k, .int .i64 n], .string s, .int .i64 m] w fun e w' => e = .returned (.bool true) ∧ Keeps w w' := by
  have hs63 : s.size ≤ 9223372036854775807 := by unfold maxLen at hs; omega
  have HC0 : Hid (∀ wx, Keeps (w.alloc (.cells #[.int .i64 k, .int .i64 n] 23)) wx → wx.cell? ⟨w.heap.size, 0, none⟩ = some (.int .i64 k) ∧ wx.cell? ⟨w.heap.size, 1, none⟩ = some (.int .i64 n)) := fun wx hx => ⟨keeps_cell hx (World.cell?_alloc_new _ _ _ _), keeps_cell hx (World.cell?_alloc_new _ _ _ _)⟩
  obtain ⟨hm1, hm2⟩ := hm
  clear hs
  by_cases hmid : 3000 < s.size ∧ s.size ≤ 32768
  · obtain ⟨h1, h2⟩ := hmid
    have j1 : decide ((3000 : Int) < (s.size : Int)) = true := decide_eq_true (by omega)
    have j2 : decide ((s.size : Int) ≤ 32768) = true := decide_eq_true (by omega)
    have j3 : decide (3000 < s.size) = true := decide_eq_true (by omega)
    have j4 : decide (s.size ≤ 32768) = true := decide_eq_true (by omega)
    go_enter Try.func3, Try.ntmps3
    go_wp2_with fail
    go_ret
    exact ⟨rfl, kal w _⟩
  · have HNM := Lib.hid hmid
    have HW1 : Hid (∀ (T : Prop), (decide (3000 < s.size) = true → decide (s.size ≤ 32768) = false)) := fun _ h => decide_eq_false fun h2 => HNM.out ⟨of_decide_eq_true h, h2⟩
    clear hmid
    generalize hE : encC k n s.data.toList = E at *
    have HE := Lib.hid hE
    clear hE
    have HEN : Hid (∀ wx, Calls Try.prog 4 #[.agg #[.int .i64 k, .int .i64 n], .string s] wx fun e w' => ∃ v, e = .returned (.tuple #[v, .int .i64 E.2]) ∧ SeqIn (wx.heap.size ≤ ·) 9 IsText w'.heap v E.1 ∧ Keeps wx w') := fun wx => by have := cencode_any k n s wx hs63; rw [HE.out] at this; exact this
    have HRN : Hid (∀ wx, Calls Try.prog 5 #[.agg #[.int .i64 k, .int .i64 n], .string s] wx fun e w' => ∃ v, e = .returned (.tuple #[v, .int .i64 E.2]) ∧ SeqIn (wx.heap.size ≤ ·) 9 IsText w'.heap v E.1 ∧ Keeps wx w') := fun wx => by have := rencode_any k n s wx hs63; rw [HE.out] at this; exact this
    obtain ⟨l, er⟩ := E
    generalize hZ : sizeC k n m = Z at *
    have HZ := Lib.hid hZ
    clear hZ
    obtain ⟨z1, z2⟩ := Z
    simp only [] at HEN HRN
    by_cases hbig : 3000 < s.size
    all_goals
      first
        | (have j1 : decide ((3000 : Int) < (s.size : Int)) = true := decide_eq_true (by omega)
           have j3 : decide (3000 < s.size) = true := decide_eq_true hbig
           have j4 := HW1.out True j3
           have j2 : decide ((s.size : Int) ≤ 32768) = false := decide_eq_false (by have := of_decide_eq_false j4; omega)
           have jj := j2)
        | (have j1 : decide ((3000 : Int) < (s.size : Int)) = false := decide_eq_false (by omega)
           have j3 : decide (3000 < s.size) = false := decide_eq_false hbig)
      clear hbig
      go_enter Try.func3, Try.ntmps3
      go_wp2_with fail
      refine Calls.mono (HEN.out _) ?_
      rintro e w1 ⟨va, rfl, ha, hk1⟩
      have HA1 := Lib.hid ha.at_
      have HK1 := Lib.hid hk1
      obtain ⟨c0, c1⟩ := HC0.out w1 hk1
      clear ha hk1
      go_wp2_with fail
      refine Calls.mono (HRN.out _) ?_
      rintro e w2 ⟨vb, rfl, hb, hk2⟩
      have HB2 := Lib.hid hb.at_
      have HK2 := Lib.hid (HK1.out.trans hk2)
      have HA2 := Lib.hid (SeqAt.keeps HA1.out hk2)
      clear hb hk2 c0 c1
      go_wp2_with fail
      refine Calls.mono (csame_any va vb l _ HA2.out HB2.out) ?_
      rintro e w3 ⟨rfl, n3, rfl⟩
      have HK3 : Hid (Keeps (w.alloc (.cells #[.int .i64 k, .int .i64 n] 23)) (w2.drewN n3)) := HK2.out
      obtain ⟨c0, c1⟩ := HC0.out _ HK3.out
      generalize w2.drewN n3 = w4 at *
      go_wp2_with fail
      refine Calls.mono (csize_any k n m _ hm2 hm1) ?_
      rintro e w5 ⟨rfl, hk5⟩
      rw [HZ.out]
      have HK5 := Lib.hid (HK3.out.trans hk5)
      obtain ⟨c0, c1⟩ := HC0.out _ HK5.out
      clear hk5
      go_wp2_with fail
      refine Calls.mono (rsize_any k n m _ hm2 hm1) ?_
      rintro e w6 ⟨rfl, hk6⟩
      rw [HZ.out]
      have HK6 := Lib.hid (HK5.out.trans hk6)
      clear hk6
      go_wp2_with fail
      go_ret
      exact ⟨rfl, (kal w _).trans HK6.out⟩
end Go.Proofs.Ytllfhaocdknejaa
