/- The walks of slices.IndexFunc and ContainsFunc at texts. -/
import Derived.Test.YtdpfanifagfciaaDoorText
namespace Go.Proofs.YtdpfanifagfciaaDoor
open Go.RowKit
set_option maxRecDepth 100000 in
set_option maxHeartbeats 1000000 in
theorem indexT_any (va : Value) (m : List ByteArray) (fn : FuncId) (caps : Array Value) (p : ByteArray → Bool) (w : World) (hm : TextsAt w.heap va m)
    (hcf : ∀ (xs : Array Value) (wx : World), (callFunc fn xs).run Tryd.prog wx = .ok (.enter fn xs) wx)
    (hf : ∀ wx, Keeps w wx → ∀ s, s ∈ m → Calls Tryd.prog fn (#[.string s] ++ caps) wx fun e w' => e = .returned (.bool (p s)) ∧ Keeps wx w') :
    Calls Tryd.prog 80 #[va, .func (.func fn) #[] caps] w fun e w' => (∃ n : Int, e = .returned (.int .i64 n) ∧ decide (0 ≤ n) = m.any p) ∧ Keeps w w' := by
  have HCF := hcf
  clear hcf
  have HM := Lib.hid hm
  obtain ⟨a, ca, rfl, hla, hea⟩ := hm
  have HF := Lib.hid hf
  clear hea hf
  go_enter Tryd.func80, Tryd.ntmps80
  go_wp2
  go_loopw [8] (fun i wr => ∃ k : Nat, k ≤ m.length ∧ i = .int .i64 k ∧ Hid (∀ j (h : j < m.length), j < k → p m[j] = false) ∧ Hid (Keeps w wr)) (fun i _ => m.length - (intOf i).toNat)
  case atStart => exact ⟨0, by omega, rfl, fun j _ h => by omega, keeps_refl w⟩
  case round =>
    obtain ⟨k, hk, rfl, hno, hkw⟩ := hrel
    by_cases hlt : k < m.length
    · obtain ⟨b, off, c, u, e0, c1, r1⟩ := seq_cell (SeqAt.keeps HM.out hkw.out) hlt
      injection e0 with e2 e3 e4
      subst e2 e4
      unfold IsText at r1
      subst r1
      have HMM := Lib.hid (List.getElem_mem hlt)
      have hlt64 : (k : Int) < (m.length : Int) := by omega
      have hk0 : (0 : Int) ≤ (k : Int) := by omega
      have HNN : Hid (p m[k] = false → ∀ j (h : j < m.length), j < k + 1 → p m[j] = false) := fun hp j h hj => by
        by_cases e : j = k
        · subst e; exact hp
        · exact hno.out j h (by omega)
      have HYY : Hid (p m[k] = true → m.any p = true) := fun hp => List.any_eq_true.2 ⟨_, List.getElem_mem hlt, hp⟩
      generalize m[k] = s at *
      clear e3
      go_wp2_with fail
      refine Calls.mono (HF.out _ hkw.out _ HMM.out) ?_
      rintro e w3 ⟨rfl, hk3⟩
      have hk4 : Keeps w w3 := hkw.out.call hk3 (Nat.le_refl _)
      cases hp : p s with
      | true =>
        have HA := Lib.hid (HYY.out hp)
        clear hp
        go_wp2
        go_ret
        exact ⟨⟨_, rfl, by rw [decide_eq_true (by omega)]; exact HA.out.symm⟩, hk4⟩
      | false =>
        have HA := Lib.hid (HNN.out hp)
        clear hp
        go_wp2
        exact ⟨⟨k + 1, by omega, rfl, HA, hk4⟩, by simp [intOf]; omega⟩
    · obtain rfl : k = m.length := by omega
      go_wp2
      go_ret
      refine ⟨⟨_, rfl, ?_⟩, hkw.out⟩
      rw [decide_eq_false (by omega)]
      refine (List.any_eq_false.2 fun r hr => ?_).symm
      obtain ⟨j, hj, rfl⟩ := List.getElem_of_mem hr
      rw [hno.out j hj hj]; simp
set_option maxHeartbeats 1000000 in
theorem containsT_any (va : Value) (m : List ByteArray) (fn : FuncId) (caps : Array Value) (p : ByteArray → Bool) (w : World) (hm : TextsAt w.heap va m)
    (hcf : ∀ (xs : Array Value) (wx : World), (callFunc fn xs).run Tryd.prog wx = .ok (.enter fn xs) wx)
    (hf : ∀ wx, Keeps w wx → ∀ s, s ∈ m → Calls Tryd.prog fn (#[.string s] ++ caps) wx fun e w' => e = .returned (.bool (p s)) ∧ Keeps wx w') :
    Calls Tryd.prog 70 #[va, .func (.func fn) #[] caps] w fun e w' => e = .returned (.bool (m.any p)) ∧ Keeps w w' := by
  have HM := Lib.hid hm
  have HF := Lib.hid hf
  clear hm hf
  go_enter Tryd.func70, Tryd.ntmps70
  go_wp2_with fail
  refine Calls.mono (indexT_any _ m fn caps p _ HM.out hcf HF.out) ?_
  rintro e w1 ⟨⟨n, rfl, hn⟩, hk⟩
  by_cases h : 0 ≤ n
  · rw [decide_eq_true h] at hn
    have HN := Lib.hid hn
    clear hn
    go_wp2
    go_ret
    exact ⟨by rw [← HN.out]; rfl, hk⟩
  · rw [decide_eq_false h] at hn
    have HN := Lib.hid hn
    clear hn
    go_wp2
    go_ret
    exact ⟨by rw [← HN.out]; simp; omega, hk⟩
end Go.Proofs.YtdpfanifagfciaaDoor
