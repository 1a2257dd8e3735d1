/- The walks of solve.Rank and solve.Down. -/
import Derived.Test.YtojdodbedemkoaaDown
import Derived.Test.YtojdodbedemkoaaSolSpec
namespace Go.Proofs.Ytojdodbedemkoaa
open Go.RowKit
theorem smay_is (va : Value) (m : List (List UInt8)) (w : World) (hm : MatAt w.heap va m) (b : Bool) (h : mayB 255 m = b) : Calls Try.prog 69 #[va] w fun e w' => e = .returned (.bool b) ∧ Keeps w w' := by
  have := smay_any va m w hm; rw [h] at this; exact this
/-- Two numbers, all kept. -/
def GiveInt (w : World) (r : Int × Int) (e : Ending) (w' : World) : Prop := e = .returned (.tuple #[.int .i64 r.1, .int .i64 r.2]) ∧ Keeps w w'
theorem own0_any (va : Value) (m : List (List UInt8)) (w : World) (ha : MatAt w.heap va m) (hm : mayB 255 m = true) :
    Calls Try.prog 71 #[va, .int .i64 0] w (GiveLies w m.length (colsN m) (LA.at_ m)) := by
  have := sown_any va m 0 w ha hm (by omega)
  rw [Nat.add_zero] at this; exact this
theorem may_cols {t : Nat} {m : List (List UInt8)} (h : mayB t m = true) : 1 ≤ m.length ∧ m.length ≤ t ∧ 1 ≤ colsN m ∧ colsN m ≤ t ∧ LA.Rect m (colsN m) := mayB_iff.1 h
theorem chg_keeps {w w1 w2 : World} (k : Keeps w w1) (c : Chg (fun b => w.heap.size ≤ b) w1 w2) : Keeps w w2 := (k.chg.trans c).keeps fun b hb h => by omega

set_option maxRecDepth 100000 in
set_option maxHeartbeats 1000000 in
theorem rank_any (va : Value) (m : List (List UInt8)) (w : World) (ha : MatAt w.heap va m) : Calls Try.prog 41 #[va] w (GiveInt w (rankM m)) := by
  have HA := Lib.hid ha
  clear ha
  cases hm : mayB 255 m with
  | false =>
    have e : Hid (rankM m = (0, 4)) := by show _ = _; unfold rankM; rw [hm]; rfl
    have MA := Lib.hid hm
    clear hm
    go_enter Try.func41, Try.ntmps41
    go_wp2_with fail
    refine Calls.mono (smay_is _ m _ HA.out _ MA.out) ?_
    rintro e w1 ⟨rfl, hk⟩
    go_wp2
    go_ret2
    exact ⟨by rw [e.out]; rfl, hk⟩
  | true =>
    have e : Hid (rankM m = (((LA.dn m (colsN m)).2 : Int), 0)) := by show _ = _; unfold rankM; rw [hm]; rfl
    obtain ⟨a1, a2, a3, a4, hR⟩ := may_cols hm
    have HR := Lib.hid hR
    clear hR
    have MA := Lib.hid hm
    clear hm
    go_enter Try.func41, Try.ntmps41
    go_wp2_with fail
    refine Calls.mono (smay_is _ m _ HA.out _ MA.out) ?_
    rintro e w1 ⟨rfl, hk⟩
    have HA := Lib.hid (HA.out.keeps hk)
    have HK := Lib.hid hk
    clear hk
    go_wp2_with fail
    refine Calls.mono (own0_any _ m _ HA.out MA.out) ?_
    rintro e w2 ⟨g, cap, ρ, κ, rfl, hl, hk⟩
    have HL := Lib.hid hl
    have HK2 := Lib.hid hk
    clear hl hk
    go_wp2_with fail
    refine Calls.mono (down_any w1.heap.size g cap (colsN m) m ρ κ w2 HL.out HR.out a1 a2 a3 (by omega)) ?_
    rintro e w3 ⟨rfl, _, hc⟩
    have HK3 : Hid (Keeps w w3) := HK.out.call (chg_keeps HK2.out hc) (Nat.le_refl _)
    clear hc
    go_wp2
    go_ret2
    exact ⟨by rw [e.out]; rfl, HK3.out⟩

set_option maxRecDepth 100000 in
set_option maxHeartbeats 1000000 in
theorem sdown_any (va : Value) (m : List (List UInt8)) (w : World) (ha : MatAt w.heap va m) : Calls Try.prog 48 #[va] w (GiveMat w (downM m)) := by
  have HA := Lib.hid ha
  clear ha
  cases hm : mayB 255 m with
  | false =>
    have e : Hid (downM m = ([], 4)) := by show _ = _; unfold downM; rw [hm]; rfl
    have MA := Lib.hid hm
    clear hm
    go_enter Try.func48, Try.ntmps48
    go_wp2_with fail
    refine Calls.mono (smay_is _ m _ HA.out _ MA.out) ?_
    rintro e w1 ⟨rfl, hk⟩
    go_wp2
    go_ret2
    rw [e.out]
    exact GiveMat.err hk
  | true =>
    have e : Hid (downM m = ((LA.dn m (colsN m)).1, 0)) := by show _ = _; unfold downM; rw [hm]; rfl
    obtain ⟨a1, a2, a3, a4, hR⟩ := may_cols hm
    have HR := Lib.hid hR
    clear hR
    have HRD : Hid (LA.Rect (LA.dn m (colsN m)).1 (colsN m)) := dn_rect HR.out _
    have HLD : Hid ((LA.dn m (colsN m)).1.length = m.length) := dn_len m _
    have MA := Lib.hid hm
    clear hm
    go_enter Try.func48, Try.ntmps48
    go_wp2_with fail
    refine Calls.mono (smay_is _ m _ HA.out _ MA.out) ?_
    rintro e w1 ⟨rfl, hk⟩
    have HA := Lib.hid (HA.out.keeps hk)
    have HK := Lib.hid hk
    clear hk
    go_wp2_with fail
    refine Calls.mono (own0_any _ m _ HA.out MA.out) ?_
    rintro e w2 ⟨g, cap, ρ, κ, rfl, hl, hk⟩
    have HL := Lib.hid hl
    have HK2 := Lib.hid hk
    clear hl hk
    go_wp2_with fail
    refine Calls.mono (down_any w1.heap.size g cap (colsN m) m ρ κ w2 HL.out HR.out a1 a2 a3 (by omega)) ?_
    rintro e w3 ⟨rfl, ⟨ρ', κ', hl⟩, hc⟩
    have HK3 : Hid (Keeps w w3) := HK.out.call (chg_keeps HK2.out hc) (Nat.le_refl _)
    have HM : Hid (MatIn (w.heap.size ≤ ·) w3.heap (.slice (some ⟨g, 0, none⟩) m.length cap) (LA.dn m (colsN m)).1) := by
      have h1 := HLD.out
      have h2 : Lies w1.heap.size w3.heap g cap (LA.dn m (colsN m)).1.length (colsN m) (LA.at_ (LA.dn m (colsN m)).1) ρ' κ' := by rw [h1]; exact hl
      have h3 := h2.mat HRD.out (fun _ _ _ _ => rfl) (by omega) (by omega)
      rw [h1] at h3
      exact h3.mono fun b hb => Nat.le_trans HK.out.size hb
    clear hc hl
    go_wp2
    go_ret2
    rw [e.out]
    exact ⟨_, rfl, HM.out, HK3.out⟩
end Go.Proofs.Ytojdodbedemkoaa
