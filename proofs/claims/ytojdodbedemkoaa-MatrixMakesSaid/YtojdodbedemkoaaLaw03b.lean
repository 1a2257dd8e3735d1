/- The walk of the law MatrixMakes. -/
import Derived.Test.YtojdodbedemkoaaSame03
import Derived.Test.YtojdodbedemkoaaMatSame
import Derived.Test.YtojdodbedemkoaaMatVec
import Derived.Test.YtojdodbedemkoaaRefVec
import Derived.Test.YtojdodbedemkoaaRefRows
import Derived.Test.YtojdodbedemkoaaLarge
namespace Go.Proofs.Ytojdodbedemkoaa
open Go.RowKit

theorem large_is (v : Value) (m : List (List UInt8)) (w : World) (hm : MatAt w.heap v m) (x : Bool) (hx : largeB m = x) : Calls Try.prog 23 #[v] w fun e w' => e = .returned (.bool x) ∧ ∃ n, w' = w.drewN n := by
  subst hx; exact large_any v m w hm

theorem matW_one {S : Nat → Prop} {w : World} {u : Value} (h : RowW S w.heap u) : MatW S (w.alloc (.cells #[u] 33)).heap (.slice (some ⟨w.heap.size, 0, none⟩) 1 1) := by
  refine ⟨_, 1, 1, rfl, by omega, fun j hj => ?_⟩
  obtain rfl : j = 0 := by omega
  refine ⟨w.heap.size, 0, u, rfl, typH_new _ _ _, by rw [← cell_of]; exact World.cell?_alloc_new _ _ _ _, ?_⟩
  obtain ⟨a, len, cap, e, hl, hel⟩ := h
  refine ⟨a, len, cap, e, hl, fun j hj => ?_⟩
  obtain ⟨b, off, e1, e2, e3, e4, x, e5⟩ := hel j hj
  have c : Chg (fun _ => False) w (w.alloc (.cells #[u] 33)) := (Chg.refl _ w).alloc _
  exact ⟨b, off, e1, e2, typH_chg c e3 (fun x => x), by rw [frozH_chg c (typH_lt e3) (fun x => x)]; exact e4, x, cellH_chg c e5 (fun x => x)⟩

set_option maxRecDepth 100000 in
set_option maxHeartbeats 4000000 in
theorem makes_any (va : Value) (a : List (List UInt8)) (vb : Value) (b : List (List UInt8)) (vv : Value) (v : List UInt8) (vl : Value) (l : List Int) (w : World)
    (ha : MatAt w.heap va a) (hb : MatAt w.heap vb b) (hv : RowAt w.heap vv v) (hl : SeqAt IsInt w.heap vl l) :
    Calls Try.prog 4 #[va, vb, vv, vl] w fun e w' => e = .returned (.bool true) ∧ Keeps w w' := by
  obtain ⟨pa, qa, rfl⟩ := seq_shape ha
  obtain ⟨pb, qb, rfl⟩ := seq_shape hb
  obtain ⟨pv, qv, rfl⟩ := seq_shape hv
  obtain ⟨pl, ql, rfl⟩ := seq_shape hl
  have HA := Lib.hid ha
  have HB := Lib.hid hb
  have HV := Lib.hid hv
  have HL := Lib.hid hl
  clear ha hb hv hl
  cases la : largeB a with
  | true =>
    have LA := Lib.hid la
    clear la
    go_enter Try.func4, Try.ntmps4
    go_wp2_with (first | (go_at_call 23; (with_reducible refine Calls.mono (large_is _ a _ ?_ _ LA.out) ?_); exact HA.out; rintro e w' ⟨rfl, na, rfl⟩))
    go_ret
    exact ⟨rfl, keeps_refl _⟩
  | false =>
    have LA := Lib.hid la
    clear la
    cases lb : largeB b with
    | true =>
      have LB := Lib.hid lb
      clear lb
      go_enter Try.func4, Try.ntmps4
      go_wp2_with (first | (go_at_call 23; (with_reducible refine Calls.mono (large_is _ a _ ?_ _ LA.out) ?_); exact HA.out; rintro e w' ⟨rfl, na, rfl⟩) | (go_at_call 23; (with_reducible refine Calls.mono (large_is _ b _ ?_ _ LB.out) ?_); exact HB.out; rintro e w' ⟨rfl, nb, rfl⟩))
      go_ret
      exact ⟨rfl, keeps_refl _⟩
    | false =>
      have LB := Lib.hid lb
      clear lb
      by_cases hv : 2000 < v.length
      · have hv1 : decide (2000 < (v.length : Int)) = true := decide_eq_true (by omega)
        go_enter Try.func4, Try.ntmps4
        go_wp2_with (first | (go_at_call 23; (with_reducible refine Calls.mono (large_is _ a _ ?_ _ LA.out) ?_); exact HA.out; rintro e w' ⟨rfl, na, rfl⟩) | (go_at_call 23; (with_reducible refine Calls.mono (large_is _ b _ ?_ _ LB.out) ?_); exact HB.out; rintro e w' ⟨rfl, nb, rfl⟩))
        go_ret
        exact ⟨rfl, keeps_refl _⟩
      · by_cases hl : 200 < l.length
        · have hv1 : decide (2000 < (v.length : Int)) = false := decide_eq_false (by omega)
          have hl1 : decide (200 < (l.length : Int)) = true := decide_eq_true (by omega)
          go_enter Try.func4, Try.ntmps4
          go_wp2_with (first | (go_at_call 23; (with_reducible refine Calls.mono (large_is _ a _ ?_ _ LA.out) ?_); exact HA.out; rintro e w' ⟨rfl, na, rfl⟩) | (go_at_call 23; (with_reducible refine Calls.mono (large_is _ b _ ?_ _ LB.out) ?_); exact HB.out; rintro e w' ⟨rfl, nb, rfl⟩))
          go_ret
          exact ⟨rfl, keeps_refl _⟩
        · have hv1 : decide (2000 < (v.length : Int)) = false := decide_eq_false (by omega)
          have hl1 : decide (200 < (l.length : Int)) = false := decide_eq_false (by omega)
          go_enter Try.func4, Try.ntmps4
          go_wp2_with (first | (go_at_call 23; (with_reducible refine Calls.mono (large_is _ a _ ?_ _ LA.out) ?_); exact HA.out; rintro e w' ⟨rfl, na, rfl⟩) | (go_at_call 23; (with_reducible refine Calls.mono (large_is _ b _ ?_ _ LB.out) ?_); exact HB.out; rintro e w' ⟨rfl, nb, rfl⟩))
          clear hv1 hl1
          have HA : Hid (MatAt (w.drewN (na + nb)).heap (.slice pa a.length qa) a) := HA
          have HB : Hid (MatAt (w.drewN (na + nb)).heap (.slice pb b.length qb) b) := HB
          have HV : Hid (RowAt (w.drewN (na + nb)).heap (.slice pv v.length qv) v) := HV
          have HL : Hid (SeqAt IsInt (w.drewN (na + nb)).heap (.slice pl l.length ql) l) := HL
          have HK : Hid (Keeps w (w.drewN (na + nb))) := keeps_refl w
          generalize w.drewN (na + nb) = wz at *
          refine Calls.mono (refmulm_any _ _ a b _ HA.out HB.out) ?_
          rintro e w1 ⟨vc, rfl, hc, hk1⟩
          have HA := Lib.hid (HA.out.keeps hk1)
          have HB := Lib.hid (HB.out.keeps hk1)
          have HV := Lib.hid (SeqAt.keeps HV.out hk1)
          have HL := Lib.hid (SeqAt.keeps HL.out hk1)
          have HK : Hid (Keeps w w1) := HK.out.call hk1 (Nat.le_refl _)
          have HC := Lib.hid hc.at_
          clear hc hk1
          go_wp2_with fail
          refine Calls.mono (refvec_any _ _ a v _ HA.out HV.out) ?_
          rintro e w2 ⟨vd, rfl, hd, hk1⟩
          have HA := Lib.hid (HA.out.keeps hk1)
          have HB := Lib.hid (HB.out.keeps hk1)
          have HV := Lib.hid (SeqAt.keeps HV.out hk1)
          have HL := Lib.hid (SeqAt.keeps HL.out hk1)
          have HC := Lib.hid (HC.out.keeps hk1)
          have HK : Hid (Keeps w w2) := HK.out.call hk1 (Nat.le_refl _)
          have HD := Lib.hid hd.at_
          clear hd hk1
          go_wp2_with fail
          refine Calls.mono (refrows_any _ _ a l _ HA.out HL.out) ?_
          rintro e w3 ⟨vg, rfl, hg, hk1⟩
          have HA := Lib.hid (HA.out.keeps hk1)
          have HB := Lib.hid (HB.out.keeps hk1)
          have HV := Lib.hid (SeqAt.keeps HV.out hk1)
          have HL := Lib.hid (SeqAt.keeps HL.out hk1)
          have HC := Lib.hid (HC.out.keeps hk1)
          have HD := Lib.hid (SeqAt.keeps HD.out hk1)
          have HK : Hid (Keeps w w3) := HK.out.call hk1 (Nat.le_refl _)
          have HG := Lib.hid hg.at_
          clear hg hk1
          go_wp2_with fail
          go_loopw [15] (fun i wr => ∃ r : Nat, r ≤ 2 ∧ i = .int .i64 r ∧ Hid (Keeps w3 wr)) (fun i _ => 2 - (intOf i).toNat)
          case atStart => exact ⟨0, by omega, rfl, keeps_refl w3⟩
          case round =>
            obtain ⟨r, hr, rfl, hk⟩ := hrel
            have HA := Lib.hid (HA.out.keeps hk.out)
            have HB := Lib.hid (HB.out.keeps hk.out)
            have HV := Lib.hid (SeqAt.keeps HV.out hk.out)
            have HL := Lib.hid (SeqAt.keeps HL.out hk.out)
            have HC := Lib.hid (HC.out.keeps hk.out)
            have HD := Lib.hid (SeqAt.keeps HD.out hk.out)
            have HG := Lib.hid (HG.out.keeps hk.out)
            by_cases hlt : r < 2
            · go_wp2_with fail
              refine Calls.mono (matmul_any _ _ a b _ HA.out HB.out) ?_
              rintro e w4 ⟨vx, rfl, hx, hk1⟩
              have HA := Lib.hid (HA.out.keeps hk1)
              have HB := Lib.hid (HB.out.keeps hk1)
              have HV := Lib.hid (SeqAt.keeps HV.out hk1)
              have HL := Lib.hid (SeqAt.keeps HL.out hk1)
              have HC := Lib.hid (HC.out.keeps hk1)
              have HD := Lib.hid (SeqAt.keeps HD.out hk1)
              have HG := Lib.hid (HG.out.keeps hk1)
              have hk4 : Hid (Keeps w3 w4) := hk.out.call hk1 (Nat.le_refl _)
              have HX := Lib.hid hx.bound
              clear hx hk1
              go_wp2_with fail
              refine Calls.mono (matvec_any _ _ a v _ HA.out HV.out) ?_
              rintro e w5 ⟨vy, rfl, hy, hk1⟩
              have HA := Lib.hid (HA.out.keeps hk1)
              have HB := Lib.hid (HB.out.keeps hk1)
              have HV := Lib.hid (SeqAt.keeps HV.out hk1)
              have HL := Lib.hid (SeqAt.keeps HL.out hk1)
              have HC := Lib.hid (HC.out.keeps hk1)
              have HD := Lib.hid (SeqAt.keeps HD.out hk1)
              have HG := Lib.hid (HG.out.keeps hk1)
              have hk5 : Hid (Keeps w3 w5) := hk4.out.call hk1 (Nat.le_refl _)
              have HX := Lib.hid (HX.out.keeps hk1)
              have HY : Hid (RowIn (fun x => w4.heap.size ≤ x ∧ x < w5.heap.size) w5.heap vy (vecM a v).1) := SeqIn.bound hy fun _ _ x => x
              have hs5 := hk1.size
              obtain ⟨py, qy, rfl⟩ := seq_shape (SeqIn.at_ HY.out)
              clear hy hk1
              go_wp2_with fail
              refine Calls.mono (matrows_any _ _ a l _ HA.out HL.out) ?_
              rintro e w6 ⟨vz, rfl, hz, hk1⟩
              have HC := Lib.hid (HC.out.keeps hk1)
              have HD := Lib.hid (SeqAt.keeps HD.out hk1)
              have HG := Lib.hid (HG.out.keeps hk1)
              have hk6 : Hid (Keeps w3 w6) := hk5.out.call hk1 (Nat.le_refl _)
              have HX := Lib.hid (HX.out.keeps hk1)
              have HY : Hid (RowIn (fun x => w4.heap.size ≤ x ∧ x < w5.heap.size) w6.heap (.slice py (vecM a v).1.length qy) (vecM a v).1) := SeqIn.chg HY.out (T := fun _ => False) (Kept.any hk1) (fun _ _ _ _ x => x) fun _ _ _ x => x
              have hs6 := hk1.size
              have HZ := Lib.hid hz
              clear HA HB HV HL hz hk1
              have hs3 := hk.out.size
              go_wp2_with fail
              refine Calls.mono (same03_any _ _ _ _ w6 HX.out.at_ HC.out) ?_
              rintro e w' ⟨rfl, n1, rfl⟩
              have cy := conv8 (w := w6) (SeqIn.at_ HY.out) n1
              have cd := conv8 (w := w6) HD.out n1
              go_wp2_with fail
              refine Calls.mono (same03_any _ _ _ _ (w6.drewN n1) HZ.out.at_ HG.out) ?_
              rintro e w' ⟨rfl, n2, rfl⟩
              go_wp2_with fail
              refine Calls.mono (spoil_any _ _ _ (matW (h := w6.heap) HX.out)) ?_
              rintro e w7 ⟨rfl, hc7⟩
              have HC7 : Hid (Chg (fun b => wr.heap.size ≤ b ∧ b < w4.heap.size) w6 w7) := hc7
              have HY7 : Hid (RowIn (fun x => w4.heap.size ≤ x ∧ x < w5.heap.size) w7.heap (.slice py (vecM a v).1.length qy) (vecM a v).1) := SeqIn.chg HY.out HC7.out (fun b _ h1 _ h2 => by omega) fun _ _ _ x => x
              have HZ7 : Hid (MatIn (w5.heap.size ≤ ·) w7.heap vz (rowsM a l).1) := MatIn.chg HZ.out HC7.out fun b _ h1 h2 => by omega
              have hk4s := hk4.out.size
              clear hc7 cy cd
              go_wp2_with fail
              refine Calls.mono (spoil_any _ _ _ (matW_one (rowW HY7.out))) ?_
              rintro e w8 ⟨rfl, hc8⟩
              have HC8 : Hid (Chg (fun b => w4.heap.size ≤ b ∧ b < w5.heap.size) w7 w8) := ((Chg.refl _ w7).alloc _).trans hc8
              have HZ8 : Hid (MatIn (w5.heap.size ≤ ·) w8.heap vz (rowsM a l).1) := MatIn.chg HZ7.out HC8.out fun b _ h1 h2 => by omega
              clear hc8
              go_wp2_with fail
              refine Calls.mono (spoil_any _ _ _ (matW HZ8.out)) ?_
              rintro e w9 ⟨rfl, hc9⟩
              have hk9 : Hid (Keeps w3 w9) := by
                have c2 : Chg (fun b => w3.heap.size ≤ b) w6 w7 := HC7.out.mono fun b _ h => by omega
                have c3 : Chg (fun b => w3.heap.size ≤ b) w7 w8 := HC8.out.mono fun b _ h => by omega
                have c4 : Chg (fun b => w3.heap.size ≤ b) w8 w9 := hc9.mono fun b _ h => by omega
                exact (((hk6.out.chg.trans c2).trans c3).trans c4).keeps fun b hb hx => by omega
              clear hc9
              go_wp2_with fail
              exact ⟨⟨r + 1, by omega, rfl, hk9⟩, by simp [intOf]; omega⟩
            · obtain rfl : r = 2 := by omega
              have HK : Hid (Keeps w wr) := HK.out.call hk.out (Nat.le_refl _)
              go_wp2_with fail
              refine Calls.mono (may_any _ a _ HA.out) ?_
              rintro e w4 ⟨rfl, hk1⟩
              have HA := Lib.hid (HA.out.keeps hk1)
              have HB := Lib.hid (HB.out.keeps hk1)
              have HK : Hid (Keeps w w4) := HK.out.call hk1 (Nat.le_refl _)
              clear hk1
              go_wp2_with fail
              refine Calls.mono (refmay_any _ a _ HA.out) ?_
              rintro e w' ⟨rfl, n3, rfl⟩
              go_wp2_with fail
              refine Calls.mono (matsame_any _ _ a b (w4.drewN n3) HA.out HB.out) ?_
              rintro e w' ⟨rfl, n4, rfl⟩
              go_wp2_with fail
              refine Calls.mono (same03_any _ _ a b (w4.drewN (n3 + n4)) HA.out HB.out) ?_
              rintro e w' ⟨rfl, n5, rfl⟩
              go_wp2_with fail
              refine Calls.mono (matsame_any _ _ a a (w4.drewN (n3 + n4 + n5)) HA.out HA.out) ?_
              rintro e w' ⟨rfl, n6, rfl⟩
              go_wp2
              go_ret
              exact ⟨rfl, HK.out⟩
end Go.Proofs.Ytojdodbedemkoaa
