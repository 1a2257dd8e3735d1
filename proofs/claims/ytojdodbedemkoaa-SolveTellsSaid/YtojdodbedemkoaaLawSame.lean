/- The walk of the law's own comparison, that writes over its first matrix. -/
import Derived.Test.YtojdodbedemkoaaAppRow
import Derived.Test.YtojdodbedemkoaaSame03
namespace Go.Proofs.Ytojdodbedemkoaa
open Go.RowKit
set_option maxRecDepth 100000 in
set_option maxHeartbeats 1000000 in
theorem lawsame_any (S : Nat → Prop) (v vb : Value) (m : List (List UInt8)) (w : World) (hv : MatW S w.heap v) (ha : MatAt w.heap v m) (hb : MatAt w.heap vb m) :
    Calls Try.prog 52 #[v, vb] w fun e w' => e = .returned (.bool true) ∧ Chg S w w' := by
  have hv0 := hv
  obtain ⟨a, len, cap, rfl, hl, hel⟩ := hv0
  clear hel
  have HV := Lib.hid hv
  have HA := Lib.hid ha
  have HB := Lib.hid hb
  clear hv ha hb
  go_enter Try.func52, Try.ntmps52
  go_wp2_with fail
  refine Calls.mono (same04_any _ _ m m _ HA.out HB.out) ?_
  rintro e w' ⟨rfl, n, rfl⟩
  rw [decide_eq_true rfl]
  clear HA HB
  have HV : Hid (MatW S (w.drewN n).heap (.slice a len cap)) := HV
  have HC : Hid (Chg S w (w.drewN n)) := Chg.refl S w
  generalize w.drewN n = w1 at *
  go_wp2_with fail
  go_loopw [6] (fun i wr => ∃ k : Nat, k ≤ len ∧ i = .int .i64 k ∧ Hid (MatW S wr.heap (.slice a len cap)) ∧ Hid (Chg S w wr)) (fun i _ => len - (intOf i).toNat)
  case atStart => exact ⟨0, by omega, rfl, HV, HC⟩
  case round =>
    obtain ⟨k, hk, rfl, hm, hc⟩ := hrel
    obtain ⟨wo, rfl⟩ : ∃ wo : World, wo = wr := ⟨_, rfl⟩
    by_cases hlt : k < len
    · obtain ⟨a1, len1, cap1, e1, _, hel1⟩ := hm.out
      injection e1 with e2 e3 e4
      subst e2 e3 e4
      obtain ⟨b, off, u, rfl, t1, c1, r1⟩ := hel1 k hlt
      obtain ⟨a2, len2, cap2, rfl, hl2, _⟩ := r1
      clear hel1
      go_wp2_with fail
      go_loopw [7] (fun j wi => ∃ j' : Nat, j' ≤ len2 ∧ j = .int .i64 j' ∧ Hid (MatW S wi.heap (.slice (some ⟨b, off, none⟩) len cap)) ∧ Hid (Chg S w wi) ∧ Hid (cellH wi.heap b (off + k) = some (.slice a2 len2 cap2))) (fun j _ => len2 - (intOf j).toNat)
      case atStart => exact ⟨0, by omega, rfl, hm, hc, c1⟩
      case round =>
        obtain ⟨j, hj, rfl, hm2, hc2, hcc⟩ := hrel
        have c2 : wr.cell? ⟨b, off + k, none⟩ = some (.slice a2 len2 cap2) := by rw [cell_of]; exact hcc.out
        by_cases hjl : j < len2
        · obtain ⟨a1, len1, cap1, e1, _, hel1⟩ := hm2.out
          injection e1 with e2 e3 e4
          subst e2 e3 e4
          obtain ⟨b', off', u, e5, t1', c1', r1⟩ := hel1 k hlt
          injection e5 with e6
          injection e6 with e7 e8 _
          subst e7 e8
          rw [hcc.out] at c1'
          injection c1' with c1'
          subst c1'
          obtain ⟨a1, len1, cap1, e1, _, hel2⟩ := r1
          injection e1 with e2 e3 e4
          subst e2 e3 e4
          obtain ⟨b3, off3, rfl, hS, ht3, hf3, x, hx3⟩ := hel2 j hjl
          have hset := hm2.out.set (x := 77) hx3 ht3
          have hset2 : cellH (wr.setCell ⟨b3, off3 + j, none⟩ (.int .u8 (((77 : UInt8).toNat : Nat) : Int))).heap b (off + k) = some (.slice (some ⟨b3, off3, none⟩) len2 cap2) := by
            rw [cellH_set _ _ _ _ _ _ _ hx3, if_neg (fun h => by rw [h.1] at ht3; rw [ht3] at t1'; cases t1')]; exact hcc.out
          have f3 := hf3
          have x3 := hx3
          rw [← froz_of] at f3
          rw [← cell_of] at x3
          have HS1 : Hid (MatW S (wr.setCell ⟨b3, off3 + j, none⟩ (.int .u8 77)).heap (.slice (some ⟨b, off, none⟩) len cap)) := hset
          have HS2 : Hid (cellH (wr.setCell ⟨b3, off3 + j, none⟩ (.int .u8 77)).heap b (off + k) = some (.slice (some ⟨b3, off3, none⟩) len2 cap2)) := hset2
          clear hel1 hel2 hset hset2 ht3 hf3 hx3 t1'
          go_wp2
          exact ⟨⟨j + 1, by omega, rfl, HS1.out, hc2.out.setCell (fun _ => hS) _, HS2.out⟩, by simp [intOf]; omega⟩
        · obtain rfl : j = len2 := by omega
          go_wp2
          exact ⟨⟨k + 1, by omega, rfl, hm2, hc2⟩, by simp [intOf]; omega⟩
    · obtain rfl : k = len := by omega
      go_wp2
      go_ret
      exact ⟨rfl, hc.out⟩
end Go.Proofs.Ytojdodbedemkoaa
