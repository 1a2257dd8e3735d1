/- The walk of the law PackReads. -/
import Derived.Test.YteandjophamipaaRefPRead
namespace Go.Proofs.Yteandjophamipaa
open Go.RowKit
set_option maxRecDepth 100000 in
set_option maxHeartbeats 4000000 in
theorem texts_any (va vb : Value) (a b : List ByteArray) (w : World) (ha : SeqAt IsText w.heap va a) (hb : SeqAt IsText w.heap vb b) :
    Calls Try.prog 22 #[va, vb] w fun e w' => e = .returned (.bool (decide (a = b))) ∧ ∃ n, w' = w.drewN n := by
  obtain ⟨pa, qa, rfl⟩ := seq_shape ha
  obtain ⟨pb, qb, rfl⟩ := seq_shape hb
  have hl63 : a.length ≤ 9223372036854775807 := let ⟨_, _, _, x, _⟩ := ha; x
  have HA := Lib.hid ha
  have HB := Lib.hid hb
  clear ha hb
  by_cases hl : a.length = b.length
  · have g1 : ((a.length : Int) != (b.length : Int)) = false := by rw [bne_eq_false_iff_eq, hl]
    have HL := Lib.hid hl
    clear hl
    go_enter Try.func22, Try.ntmps22
    go_wp2
    clear g1
    go_loopw [5] (fun i wr => ∃ k : Nat, k ≤ a.length ∧ i = .int .i64 k ∧ Hid (∀ j (h : j < a.length) (h' : j < b.length), j < k → a[j] = b[j]) ∧ ∃ n, wr = w.drewN n) (fun i _ => a.length - (intOf i).toNat)
    case atStart => exact ⟨0, by omega, rfl, (fun j _ _ h => by omega), 0, rfl⟩
    case round =>
      obtain ⟨k, hk, rfl, hE, n, rfl⟩ := hrel
      by_cases hlt : k < a.length
      · have hlb : k < b.length := by have := HL.out; omega
        have hla64 : (k : Int) < (a.length : Int) := by omega
        have hlb64 : (k : Int) < (b.length : Int) := by omega
        have hk0 : (0 : Int) ≤ (k : Int) := by omega
        obtain ⟨b1, o1, c1, u1, e1, d1, r1⟩ := seq_cell HA.out hlt
        obtain ⟨b2, o2, c2, u2, e2, d2, r2⟩ := seq_cell HB.out hlb
        injection e1 with e3 e4 e5
        subst e3 e5
        injection e2 with e6 e7 e8
        subst e6 e8
        unfold IsText at r1 r2
        subst r1 r2
        have d1 : (w.drewN n).cell? ⟨b1, o1 + k, none⟩ = some (.string a[k]) := d1
        have d2 : (w.drewN n).cell? ⟨b2, o2 + k, none⟩ = some (.string b[k]) := d2
        have HX : Hid (a = b → a[k] = b[k]) := fun h => by subst h; rfl
        have HN : Hid (a[k] = b[k] → ∀ j (h : j < a.length) (h' : j < b.length), j < k + 1 → a[j] = b[j]) := fun e j h h' hj => by
          by_cases e2 : j = k
          · subst e2; exact e
          · exact hE.out j h h' (by omega)
        generalize a[k] = x at *
        generalize b[k] = y at *
        clear e4 e7
        by_cases hxy : x = y
        · have g2 : (x.toList == y.toList) = true := by rw [txt_eq]; exact decide_eq_true hxy
          have HN2 := Lib.hid (HN.out hxy)
          clear hxy
          go_wp2_with fail
          go_quiet (fail)
          go_wp2
          exact ⟨⟨k + 1, by omega, by go_num, HN2, _, (by first | rfl | exact drew_two _ _ _)⟩, by simp [intOf]; omega⟩
        · have g2 : (x.toList == y.toList) = false := by rw [txt_eq]; exact decide_eq_false hxy
          have HR : Hid (decide (a = b) = false) := decide_eq_false fun h => hxy (HX.out h)
          clear hxy
          go_wp2_with fail
          go_quiet (fail)
          go_wp2
          go_ret
          exact ⟨by rw [HR.out] <;> rfl, _, drew_two _ _ _⟩
      · obtain rfl : k = a.length := by omega
        have HR : Hid (decide (a = b) = true) := decide_eq_true (List.ext_getElem HL.out fun j h h' => hE.out j h h' h)
        go_wp2
        go_ret
        exact ⟨by rw [HR.out] <;> rfl, _, rfl⟩
  · have g1 : ((a.length : Int) != (b.length : Int)) = true := by rw [bne_iff_ne]; omega
    have HR : Hid (decide (a = b) = false) := decide_eq_false fun h => hl (by rw [h])
    clear hl
    go_enter Try.func22, Try.ntmps22
    go_wp2
    go_ret
    exact ⟨by rw [HR.out] <;> rfl, 0, rfl⟩
theorem texts_same (va vb : Value) (a : List ByteArray) (w : World) (ha : SeqAt IsText w.heap va a) (hb : SeqAt IsText w.heap vb a) :
    Calls Try.prog 22 #[va, vb] w fun e w' => e = .returned (.bool true) ∧ Keeps w w' := by
  have := texts_any va vb a a w ha hb
  rw [decide_eq_true rfl] at this
  exact kept this
theorem readP_e {f : FuncId} {xs : Array Value} {w : World} {r : List ByteArray × List Int × Int} {B : List ByteArray} {o : List Int} {x : Int} (h : Calls Try.prog f xs w (GiveR w r)) (e : r = (B, o, x)) : Calls Try.prog f xs w (GiveR w (B, o, x)) := e ▸ h
set_option maxRecDepth 100000 in
set_option maxHeartbeats 4000000 in
theorem preads_any (s : ByteArray) (w : World) (_ : s.size ≤ maxLen) : Calls Try.prog 4 #[.string s] w fun e w' => e = .returned (.bool true) ∧ Keeps w w' := by
  obtain ⟨B, o, x, hm⟩ : ∃ B o x, readP s.data.toList = (B, o, x) := ⟨_, _, _, rfl⟩
  have HM := Lib.hid hm
  clear hm
  by_cases h6 : 60000 < s.size
  · have g0 : decide ((60000 : Int) < (s.size : Int)) = true := decide_eq_true (by omega)
    go_enter Try.func4, Try.ntmps4
    go_wp2_with fail
    go_quiet (fail)
    go_wp2_with fail
    go_ret
    exact ⟨rfl, keeps_refl _⟩
  have g0 : decide ((60000 : Int) < (s.size : Int)) = false := decide_eq_false (by omega)
  by_cases h5 : 5 < s.size
  case pos =>
    have g1 : decide ((5 : Int) < (s.size : Int)) = true := decide_eq_true (by omega)
    have r4 : ∀ wx : World, (Instr.index 9 (.string s) (.int .i64 4)).run Try.prog wx = .ok (.int .u8 (byteAt s.data.toList 4 : Int)) wx := run_at s 4 (by omega)
    have r5 : ∀ wx : World, (Instr.index 9 (.string s) (.int .i64 5)).run Try.prog wx = .ok (.int .u8 (byteAt s.data.toList 5 : Int)) wx := run_at s 5 (by omega)
    have hv : wrap64 (wrap64 (wrap64 (byteAt s.data.toList 4 : Int) * 256) + wrap64 (byteAt s.data.toList 5 : Int)) = (num s.data.toList 4 : Int) := wrap_num s.data.toList 4
    by_cases h7 : 600 < num s.data.toList 4
    · have g2 : decide ((600 : Int) < (num s.data.toList 4 : Int)) = true := decide_eq_true (by omega)
      go_enter Try.func4, Try.ntmps4
      go_wp2_with fail
      go_quiet (fail)
      go_wp2_with fail
      go_ret
      exact ⟨rfl, keeps_refl _⟩
    have g2 : decide ((600 : Int) < (num s.data.toList 4 : Int)) = false := decide_eq_false (by omega)
    go_enter Try.func4, Try.ntmps4
    go_wp2_with fail
    go_quiet (fail)
    go_wp2_with fail
    refine Calls.mono (readP_e (pread_any s _ (by omega)) HM.out) ?_
    rintro e w1 ⟨va, ua, rfl, ha, hb, hk⟩
    obtain ⟨p1, q1, rfl⟩ := seq_shape (SeqIn.at_ ha)
    obtain ⟨p2, q2, rfl⟩ := seq_shape (SeqIn.at_ hb)
    have HA := Lib.hid (SeqIn.at_ ha)
    have HO := Lib.hid (SeqIn.at_ hb)
    have HK := Lib.hid hk
    clear ha hb hk
    go_wp2_with fail
    refine Calls.mono (readP_e (refpread_any s _ (by omega)) HM.out) ?_
    rintro e w2 ⟨vc, uc, rfl, ha, hb, hk⟩
    obtain ⟨p3, q3, rfl⟩ := seq_shape (SeqIn.at_ ha)
    obtain ⟨p4, q4, rfl⟩ := seq_shape (SeqIn.at_ hb)
    have HC := Lib.hid (SeqIn.at_ ha)
    have HD := Lib.hid (SeqIn.at_ hb)
    have HA := Lib.hid (SeqAt.keeps HA.out hk)
    have HO := Lib.hid (SeqAt.keeps HO.out hk)
    have HK := Lib.hid (HK.out.call hk (Nat.le_refl _))
    clear ha hb hk
    go_wp2_with fail
    refine Calls.mono (texts_same _ _ B _ HA.out HC.out) ?_
    rintro e w3 ⟨rfl, hk⟩
    have HO := Lib.hid (SeqAt.keeps HO.out hk)
    have HD := Lib.hid (SeqAt.keeps HD.out hk)
    have HK := Lib.hid (HK.out.call hk (Nat.le_refl _))
    clear hk
    go_wp2_with fail
    refine Calls.mono (ints_same _ _ o _ HO.out HD.out) ?_
    rintro e w4 ⟨rfl, hk⟩
    have HK := Lib.hid (HK.out.call hk (Nat.le_refl _))
    clear hk
    go_wp2_with fail
    go_ret
    exact ⟨rfl, HK.out⟩
  case neg =>
    have g1 : decide ((5 : Int) < (s.size : Int)) = false := decide_eq_false (by omega)
    go_enter Try.func4, Try.ntmps4
    go_wp2_with fail
    go_quiet (fail)
    go_wp2_with fail
    refine Calls.mono (readP_e (pread_any s _ (by omega)) HM.out) ?_
    rintro e w1 ⟨va, ua, rfl, ha, hb, hk⟩
    obtain ⟨p1, q1, rfl⟩ := seq_shape (SeqIn.at_ ha)
    obtain ⟨p2, q2, rfl⟩ := seq_shape (SeqIn.at_ hb)
    have HA := Lib.hid (SeqIn.at_ ha)
    have HO := Lib.hid (SeqIn.at_ hb)
    have HK := Lib.hid hk
    clear ha hb hk
    go_wp2_with fail
    refine Calls.mono (readP_e (refpread_any s _ (by omega)) HM.out) ?_
    rintro e w2 ⟨vc, uc, rfl, ha, hb, hk⟩
    obtain ⟨p3, q3, rfl⟩ := seq_shape (SeqIn.at_ ha)
    obtain ⟨p4, q4, rfl⟩ := seq_shape (SeqIn.at_ hb)
    have HC := Lib.hid (SeqIn.at_ ha)
    have HD := Lib.hid (SeqIn.at_ hb)
    have HA := Lib.hid (SeqAt.keeps HA.out hk)
    have HO := Lib.hid (SeqAt.keeps HO.out hk)
    have HK := Lib.hid (HK.out.call hk (Nat.le_refl _))
    clear ha hb hk
    go_wp2_with fail
    refine Calls.mono (texts_same _ _ B _ HA.out HC.out) ?_
    rintro e w3 ⟨rfl, hk⟩
    have HO := Lib.hid (SeqAt.keeps HO.out hk)
    have HD := Lib.hid (SeqAt.keeps HD.out hk)
    have HK := Lib.hid (HK.out.call hk (Nat.le_refl _))
    clear hk
    go_wp2_with fail
    refine Calls.mono (ints_same _ _ o _ HO.out HD.out) ?_
    rintro e w4 ⟨rfl, hk⟩
    have HK := Lib.hid (HK.out.call hk (Nat.le_refl _))
    clear hk
    go_wp2_with fail
    go_ret
    exact ⟨rfl, HK.out⟩
end Go.Proofs.Yteandjophamipaa
