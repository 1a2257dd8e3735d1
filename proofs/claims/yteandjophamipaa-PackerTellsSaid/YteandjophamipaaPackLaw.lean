/- The walks of the laws' own tests on packs, and of the law PackMakes. -/
import Derived.Test.YteandjophamipaaPkW
namespace Go.Proofs.Yteandjophamipaa
open Go.RowKit
def SomeBool (w : World) (e : Ending) (w' : World) : Prop := ∃ x, e = .returned (.bool x) ∧ w' = w
set_option maxRecDepth 100000 in
set_option maxHeartbeats 4000000 in
theorem plarge_any (v : Value) (l : List ByteArray) (w : World) (h : TextsAt w.heap v l) : Calls Try.prog 14 #[v] w (SomeBool w) := by
  obtain ⟨p, q, rfl⟩ := seq_shape h
  have hl63 : l.length ≤ 9223372036854775807 := let ⟨_, _, _, x, _⟩ := h; x
  have H := Lib.hid h
  clear h
  go_enter Try.func14, Try.ntmps14
  go_wp2_with fail
  go_loopw [3, 4] (fun t i wr => ∃ (k : Nat) (c : Int), k ≤ l.length ∧ i = .int .i64 k ∧ t = .int .i64 c ∧ wr = w) (fun _ i _ => l.length - (intOf i).toNat)
  case atStart => exact ⟨0, 0, by omega, rfl, rfl, rfl⟩
  case round =>
    obtain ⟨k, c, hk, rfl, rfl, rfl⟩ := hrel
    by_cases hlt : k < l.length
    · have hlt64 : (k : Int) < (l.length : Int) := by omega
      have hk0 : (0 : Int) ≤ (k : Int) := by omega
      by_cases hc : c < 60000
      · have g1 : decide (c < 60000) = true := decide_eq_true hc
        obtain ⟨b, off, cp, u, e5, d1, r1⟩ := seq_cell H.out hlt
        injection e5 with e6 e7 e8
        subst e6 e8
        unfold IsText at r1
        subst r1
        generalize l[k] = s at *
        clear e7
        go_wp2_with fail
        exact ⟨⟨k + 1, _, by omega, by go_num, rfl, (by first | rfl | trivial)⟩, by simp [intOf]; omega⟩
      · have g1 : decide (c < 60000) = false := decide_eq_false hc
        have g2 : decide (60000 ≤ c) = true := decide_eq_true (by omega)
        go_wp2_with fail
        go_ret
        exact ⟨_, rfl, rfl⟩
    · obtain rfl : k = l.length := by omega
      go_wp2_with fail
      all_goals
        go_ret
        exact ⟨_, rfl, rfl⟩
set_option maxRecDepth 100000 in
set_option maxHeartbeats 4000000 in
theorem ints_any (va vb : Value) (a b : List Int) (w : World) (ha : SeqAt IsInt w.heap va a) (hb : SeqAt IsInt w.heap vb b) :
    Calls Try.prog 17 #[va, vb] w fun e w' => e = .returned (.bool (decide (a = b))) ∧ ∃ n, w' = w.drewN n := by
  obtain ⟨pa, qa, rfl⟩ := seq_shape ha
  obtain ⟨pb, qb, rfl⟩ := seq_shape hb
  have hl63 : a.length ≤ 9223372036854775807 := let ⟨_, _, _, x, _⟩ := ha; x
  have HA := Lib.hid ha
  have HB := Lib.hid hb
  clear ha hb
  by_cases hl : a.length = b.length
  · have g1 : ((a.length : Int) != (b.length : Int)) = false := by rw [bne_eq_false_iff_eq, hl]
    have HL := Lib.hid hl
    clear hl
    go_enter Try.func17, Try.ntmps17
    go_wp2
    clear g1
    go_loopw [5] (fun i wr => ∃ k : Nat, k ≤ a.length ∧ i = .int .i64 k ∧ Hid (∀ j (h : j < a.length) (h' : j < b.length), j < k → a[j] = b[j]) ∧ ∃ n, wr = w.drewN n) (fun i _ => a.length - (intOf i).toNat)
    case atStart => exact ⟨0, by omega, rfl, (fun j _ _ h => by omega), 0, rfl⟩
    case round =>
      obtain ⟨k, hk, rfl, hE, n, rfl⟩ := hrel
      by_cases hlt : k < a.length
      · have hlb : k < b.length := by have := HL.out; omega
        have hla64 : (k : Int) < (a.length : Int) := by omega
        have hlb64 : (k : Int) < (b.length : Int) := by omega
        have hk0 : (0 : Int) ≤ (k : Int) := by omega
        obtain ⟨b1, o1, c1, u1, e1, d1, r1⟩ := seq_cell HA.out hlt
        obtain ⟨b2, o2, c2, u2, e2, d2, r2⟩ := seq_cell HB.out hlb
        injection e1 with e3 e4 e5
        subst e3 e5
        injection e2 with e6 e7 e8
        subst e6 e8
        unfold IsInt at r1 r2
        subst r1 r2
        have d1 : (w.drewN n).cell? ⟨b1, o1 + k, none⟩ = some (.int .i64 a[k]) := d1
        have d2 : (w.drewN n).cell? ⟨b2, o2 + k, none⟩ = some (.int .i64 b[k]) := d2
        have HX : Hid (a = b → a[k] = b[k]) := fun h => by subst h; rfl
        have HN : Hid (a[k] = b[k] → ∀ j (h : j < a.length) (h' : j < b.length), j < k + 1 → a[j] = b[j]) := fun e j h h' hj => by
          by_cases e2 : j = k
          · subst e2; exact e
          · exact hE.out j h h' (by omega)
        generalize a[k] = x at *
        generalize b[k] = y at *
        clear e4 e7
        by_cases hxy : x = y
        · have g2 : (x != y) = false := by rw [bne_eq_false_iff_eq]; exact hxy
          have HN2 := Lib.hid (HN.out hxy)
          clear hxy
          go_wp2_with fail
          go_quiet (fail)
          go_wp2
          exact ⟨⟨k + 1, by omega, by go_num, HN2, _, (by first | rfl | exact drew_two _ _ _)⟩, by simp [intOf]; omega⟩
        · have g2 : (x != y) = true := by rw [bne_iff_ne]; exact hxy
          have HR : Hid (decide (a = b) = false) := decide_eq_false fun h => hxy (HX.out h)
          clear hxy
          go_wp2_with fail
          go_quiet (fail)
          go_wp2
          go_ret
          exact ⟨by rw [HR.out] <;> rfl, _, drew_two _ _ _⟩
      · obtain rfl : k = a.length := by omega
        have HR : Hid (decide (a = b) = true) := decide_eq_true (List.ext_getElem HL.out fun j h h' => hE.out j h h' h)
        go_wp2
        go_ret
        exact ⟨by rw [HR.out] <;> rfl, _, rfl⟩
  · have g1 : ((a.length : Int) != (b.length : Int)) = true := by rw [bne_iff_ne]; omega
    have HR : Hid (decide (a = b) = false) := decide_eq_false fun h => hl (by rw [h])
    clear hl
    go_enter Try.func17, Try.ntmps17
    go_wp2
    go_ret
    exact ⟨by rw [HR.out] <;> rfl, 0, rfl⟩
theorem ints_same (va vb : Value) (a : List Int) (w : World) (ha : SeqAt IsInt w.heap va a) (hb : SeqAt IsInt w.heap vb a) :
    Calls Try.prog 17 #[va, vb] w fun e w' => e = .returned (.bool true) ∧ Keeps w w' := by
  have := ints_any va vb a a w ha hb
  rw [decide_eq_true rfl] at this
  exact kept this
theorem makeP_e {f : FuncId} {xs : Array Value} {w : World} {r : ByteArray × List Int × Int} {B : ByteArray} {o : List Int} {x : Int} (h : Calls Try.prog f xs w (GiveP w r)) (e : r = (B, o, x)) : Calls Try.prog f xs w (GiveP w (B, o, x)) := e ▸ h
set_option maxRecDepth 100000 in
set_option maxHeartbeats 4000000 in
theorem pmakes_any (v : Value) (l : List ByteArray) (w : World) (h : TextsAt w.heap v l) : Calls Try.prog 3 #[v] w fun e w' => e = .returned (.bool true) ∧ Keeps w w' := by
  have H := Lib.hid h
  clear h
  obtain ⟨B, o, x, hm⟩ : ∃ B o x, makeP l = (B, o, x) := ⟨_, _, _, rfl⟩
  have HM := Lib.hid hm
  obtain ⟨y, hy⟩ : ∃ y, mayP l = y := ⟨_, rfl⟩
  have HY := Lib.hid hy
  clear hm hy
  go_enter Try.func3, Try.ntmps3
  go_wp2_with fail
  refine Calls.mono (plarge_any _ l _ H.out) ?_
  rintro e w' ⟨z, rfl, rfl⟩
  cases z with
  | true =>
    go_wp2
    go_ret
    exact ⟨rfl, keeps_refl _⟩
  | false =>
    go_wp2_with fail
    refine Calls.mono (makeP_e (pmake_any _ l _ H.out) HM.out) ?_
    rintro e w1 ⟨va, rfl, ha, hk⟩
    have HA := Lib.hid (SeqIn.at_ ha)
    have H1 := Lib.hid (SeqAt.keeps H.out hk)
    have HK := Lib.hid hk
    clear ha hk
    go_wp2_with fail
    refine Calls.mono (makeP_e (refpmake_any _ l _ H1.out) HM.out) ?_
    rintro e w2 ⟨vb, rfl, hb, hk⟩
    have HB := Lib.hid (SeqIn.at_ hb)
    have HA := Lib.hid (SeqAt.keeps HA.out hk)
    have H2 := Lib.hid (SeqAt.keeps H1.out hk)
    have HK := Lib.hid (HK.out.call hk (Nat.le_refl _))
    have hse := txt_eq B B
    rw [decide_eq_true rfl] at hse
    clear hb hk
    go_wp2_with fail
    refine Calls.mono (ints_same _ _ o _ HA.out HB.out) ?_
    rintro e w3 ⟨rfl, hk⟩
    have H3 := Lib.hid (SeqAt.keeps H2.out hk)
    have HK := Lib.hid (HK.out.call hk (Nat.le_refl _))
    clear hk
    go_wp2_with fail
    refine Calls.mono (pmay_e _ l _ H3.out _ HY.out) ?_
    rintro e w4 ⟨rfl, hk⟩
    have H4 := Lib.hid (SeqAt.keeps H3.out hk)
    have HK := Lib.hid (HK.out.call hk (Nat.le_refl _))
    clear hk
    go_wp2_with fail
    refine Calls.mono (refpmay_e _ l _ H4.out _ HY.out) ?_
    rintro e w5 ⟨rfl, hk⟩
    have HK := Lib.hid (HK.out.call hk (Nat.le_refl _))
    clear hk
    go_wp2
    go_ret
    exact ⟨rfl, HK.out⟩
end Go.Proofs.Yteandjophamipaa
