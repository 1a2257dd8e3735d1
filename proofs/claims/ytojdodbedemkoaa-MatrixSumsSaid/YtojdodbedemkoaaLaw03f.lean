/- The walk of the law MatrixSums. -/
import Derived.Test.YtojdodbedemkoaaWorks
import Derived.Test.YtojdodbedemkoaaMatLaw2
import Derived.Test.YtojdodbedemkoaaGive
namespace Go.Proofs.Ytojdodbedemkoaa
open Go.RowKit
theorem gadd_tab (b : Nat) (x y : UInt8) (w : World) : Calls Try.prog 36 #[.pointer (some ⟨b, 0, none⟩), .int .u8 (x.toNat : Int), .int .u8 (y.toNat : Int)] w fun e w' => e = .returned (.int .u8 ((x ^^^ y).toNat : Int)) ∧ w = w' := gadd_any _ x y w
theorem gadd_s (b : Nat) (x y s : UInt8) (w : World) (h : x ^^^ y = s) : Calls Try.prog 36 #[.pointer (some ⟨b, 0, none⟩), .int .u8 (x.toNat : Int), .int .u8 (y.toNat : Int)] w fun e w' => e = .returned (.int .u8 (s.toNat : Int)) ∧ w = w' := h ▸ gadd_any _ x y w
theorem gmul_s (b : Nat) (x y s : UInt8) (w : World) (h : LA.mul x y = s) (ht : Tab w.heap b) : Calls Try.prog 35 #[.pointer (some ⟨b, 0, none⟩), .int .u8 (x.toNat : Int), .int .u8 (y.toNat : Int)] w fun e w' => e = .returned (.int .u8 (s.toNat : Int)) ∧ ∃ n, w' = w.drewN n := h ▸ gmul_tab b x y w ht
theorem byte_ne (x y : UInt8) (h : x = y) : ((x.toNat : Int) != (y.toNat : Int)) = false := by subst h; simp
set_option maxRecDepth 100000 in
set_option maxHeartbeats 8000000 in
theorem sums_any (vm : Value) (m : List (List UInt8)) (va : Value) (a : List UInt8) (vb : Value) (b : List UInt8) (x0 : Int) (w : World)
    (hm : MatAt w.heap vm m) (ha : RowAt w.heap va a) (hb : RowAt w.heap vb b) (hx0 : 0 ≤ x0 ∧ x0 < 256) :
    Calls Try.prog 6 #[vm, va, vb, .int .u8 x0] w fun e w' => e = .returned (.bool true) ∧ Keeps w w' := by
  obtain ⟨x, rfl⟩ : ∃ x : UInt8, x0 = (x.toNat : Int) := ⟨UInt8.ofNat x0.toNat, by rw [UInt8.toNat_ofNat']; omega⟩
  clear hx0
  obtain ⟨pm, qm, rfl⟩ := seq_shape hm
  obtain ⟨pa, qa, rfl⟩ := seq_shape ha
  obtain ⟨pb, qb, rfl⟩ := seq_shape hb
  have hlm : m.length ≤ 9223372036854775807 := by obtain ⟨_, _, _, h, _⟩ := hm; exact h
  have HM := Lib.hid hm
  have HA := Lib.hid ha
  have HB := Lib.hid hb
  have HK : Hid (Keeps w w) := keeps_refl w
  clear hm ha hb
  by_cases hm : 40 < m.length
  ·
    have im : decide (40 < (m.length : Int)) = true := decide_eq_true (by omega)
    go_enter Try.func6, Try.ntmps6
    go_wp2_with fail
    refine Calls.mono (works_any w) ?_
    rintro e w1 ⟨rfl, hk⟩
    have HM := Lib.hid (MatAt.keeps HM.out hk)
    have HA := Lib.hid (SeqAt.keeps HA.out hk)
    have HB := Lib.hid (SeqAt.keeps HB.out hk)
    have HK : Hid (Keeps w w1) := HK.out.call hk (Nat.le_refl _)
    clear hk
    go_wp2_with fail
    refine Calls.mono (works_any w1) ?_
    rintro e w2 ⟨rfl, hk⟩
    have HM := Lib.hid (MatAt.keeps HM.out hk)
    have HA := Lib.hid (SeqAt.keeps HA.out hk)
    have HB := Lib.hid (SeqAt.keeps HB.out hk)
    have HK : Hid (Keeps w w2) := HK.out.call hk (Nat.le_refl _)
    clear hk
    go_wp2
    go_ret
    exact ⟨rfl, HK.out⟩
  ·
    have im : decide (40 < (m.length : Int)) = false := decide_eq_false (by omega)
    by_cases ha : 40 < a.length
    ·
      have ia : decide (40 < (a.length : Int)) = true := decide_eq_true (by omega)
      go_enter Try.func6, Try.ntmps6
      go_wp2_with fail
      refine Calls.mono (works_any w) ?_
      rintro e w3 ⟨rfl, hk⟩
      have HM := Lib.hid (MatAt.keeps HM.out hk)
      have HA := Lib.hid (SeqAt.keeps HA.out hk)
      have HB := Lib.hid (SeqAt.keeps HB.out hk)
      have HK : Hid (Keeps w w3) := HK.out.call hk (Nat.le_refl _)
      clear hk
      go_wp2_with fail
      refine Calls.mono (works_any w3) ?_
      rintro e w4 ⟨rfl, hk⟩
      have HM := Lib.hid (MatAt.keeps HM.out hk)
      have HA := Lib.hid (SeqAt.keeps HA.out hk)
      have HB := Lib.hid (SeqAt.keeps HB.out hk)
      have HK : Hid (Keeps w w4) := HK.out.call hk (Nat.le_refl _)
      clear hk
      go_wp2
      go_ret
      exact ⟨rfl, HK.out⟩
    ·
      have ia : decide (40 < (a.length : Int)) = false := decide_eq_false (by omega)
      by_cases hab : a.length = b.length
      ·
        have ib : ((a.length : Int) != (b.length : Int)) = false := by rw [bne_eq_false_iff_eq]; omega
        have HAB := Lib.hid hab
        clear hab
        have hmk := mk_row a.length (by omega)
        go_enter Try.func6, Try.ntmps6
        go_wp2_with fail
        refine Calls.mono (works_any w) ?_
        rintro e w5 ⟨rfl, hk⟩
        have HM := Lib.hid (MatAt.keeps HM.out hk)
        have HA := Lib.hid (SeqAt.keeps HA.out hk)
        have HB := Lib.hid (SeqAt.keeps HB.out hk)
        have HK : Hid (Keeps w w5) := HK.out.call hk (Nat.le_refl _)
        clear hk
        go_wp2_with fail
        clear im ia ib
        go_loop [9] (fun i => ∃ k : Nat, k ≤ m.length ∧ i = .int .i64 k) (fun i => m.length - (intOf i).toNat)
        case atStart => exact ⟨0, by omega, rfl⟩
        case round =>
          obtain ⟨k, hk, rfl⟩ := hrel
          by_cases hlt : k < m.length
          ·
            have hlt64 : (k : Int) < (m.length : Int) := by omega
            obtain ⟨bx, ox, cx, ux, e1, d1, r1⟩ := mat_row HM.out hlt
            injection e1 with e1 e2 e3
            subst e1
            obtain ⟨px, qx, rfl⟩ := seq_shape r1
            clear r1
            generalize (m.getD k []).length = len at *
            by_cases h40 : 40 < len
            ·
              have h41 : decide (40 < (len : Int)) = true := decide_eq_true (by omega)
              go_wp2
              go_ret
              exact ⟨rfl, HK.out⟩
            ·
              have h41 : decide (40 < (len : Int)) = false := decide_eq_false (by omega)
              go_wp2
              go_round
              case rel => exact ⟨k + 1, by omega, rfl⟩
              case measure => simp [intOf]; omega
          ·
            obtain rfl : k = m.length := by omega
            go_wp2_with fail
            refine Calls.mono (new_any w5) ?_
            rintro e w6 ⟨rfl, hk, ht⟩
            generalize w5.heap.size = tb at *
            have HT := Lib.hid ht
            clear ht
            have HM := Lib.hid (MatAt.keeps HM.out hk)
            have HA := Lib.hid (SeqAt.keeps HA.out hk)
            have HB := Lib.hid (SeqAt.keeps HB.out hk)
            have HK : Hid (Keeps w w6) := HK.out.call hk (Nat.le_refl _)
            clear hk
            go_wp2_with fail
            clear hmk
            have HR1 := Lib.hid (Row'.chg (T := fun _ => False) (Row'.zero w6 a.length (fun i => a.getD i 0 ^^^ b.getD i 0)) ((Chg.refl _ _).alloc (.cells (reps a.length (.int .u8 0)) 5)) (by simp) (fun x => x))
            have HR2 := Lib.hid (Row'.zero (w6.alloc (.cells (reps a.length (.int .u8 0)) 5)) a.length (fun i => LA.mul (a.getD i 0) x))
            have hz2 : (w6.alloc (.cells (reps a.length (.int .u8 0)) 5)).heap.size = w6.heap.size + 1 := by simp
            rw [hz2] at HR2
            clear hz2
            have hK0 : Hid (Keeps w6 ((w6.alloc (.cells (reps a.length (.int .u8 0)) 5)).alloc (.cells (reps a.length (.int .u8 0)) 5))) := Keeps.al (Keeps.al (keeps_refl _) _) _
            have hZ0 : Hid (w6.heap.size + 1 < ((w6.alloc (.cells (reps a.length (.int .u8 0)) 5)).alloc (.cells (reps a.length (.int .u8 0)) 5)).heap.size) := by show _ < _; simp
            go_loopw [13] (fun i wr => ∃ k : Nat, k ≤ a.length ∧ i = .int .i64 k ∧ Hid (Row' w6.heap.size k a.length (fun i => a.getD i 0 ^^^ b.getD i 0) wr.heap) ∧ Hid (Row' (w6.heap.size + 1) k a.length (fun i => LA.mul (a.getD i 0) x) wr.heap) ∧ Hid (Keeps w6 wr) ∧ Hid (w6.heap.size + 1 < wr.heap.size)) (fun i _ => a.length - (intOf i).toNat)
            case atStart => exact ⟨0, by omega, rfl, HR1, HR2, hK0, hZ0⟩
            case round =>
              obtain ⟨k, hk, rfl, hR1, hR2, hK, hZ⟩ := hrel
              by_cases hlt : k < a.length
              ·
                have hlt64 : (k : Int) < (a.length : Int) := by omega
                have hlb64 : (k : Int) < (b.length : Int) := by have := HAB.out; omega
                have hge0 : (0 : Int) ≤ (k : Int) := by omega
                obtain ⟨ba, oa, ca, e1, d1⟩ := row_cell (SeqAt.keeps HA.out hK.out) hlt
                injection e1 with e1 e2 e3
                subst e1 e3
                clear e2
                obtain ⟨bb, ob, cb, e1, d2⟩ := row_cell (SeqAt.keeps HB.out hK.out) (j := k) (by have := HAB.out; omega)
                injection e1 with e1 e4 e5
                subst e1 e5
                clear e4
                obtain ⟨f1, u1, c1⟩ := hR1.out.2.1 k hlt
                obtain ⟨f2, u2, c2⟩ := hR2.out.2.1 k hlt
                rw [← froz_of] at f1 f2
                rw [← cell_of] at c1 c2
                obtain ⟨ba2, oa2, ca2, ea, da⟩ := row_cell HA.out hlt
                injection ea with ea ea2 ea3
                injection ea with ea
                injection ea with ea ea4
                subst ea ea4 ea3
                have n1 := cell_lt da
                clear da ea2
                have n2 := hZ.out
                have G1 : Hid (Row' w6.heap.size (k + 1) a.length (fun i => a.getD i 0 ^^^ b.getD i 0) (wr.setCell ⟨w6.heap.size, k, none⟩ (.int .u8 ((a.getD k 0 ^^^ b.getD k 0).toNat : Int))).heap) := hR1.out.next hlt
                have G2 : Hid (∀ ws, Chg (fun x => x = w6.heap.size) wr ws → Row' (w6.heap.size + 1) (k + 1) a.length (fun i => LA.mul (a.getD i 0) x) (ws.setCell ⟨w6.heap.size + 1, k, none⟩ (.int .u8 ((LA.mul (a.getD k 0) x).toNat : Int))).heap) := fun ws c => (Row'.chg hR2.out c (by omega) (by omega)).next hlt
                generalize a.getD k 0 = y1 at *
                generalize b.getD k 0 = y2 at *
                generalize hs : y1 ^^^ y2 = s at *
                generalize ht : LA.mul y1 x = t at *
                have HS := Lib.hid hs
                have HTT := Lib.hid ht
                clear hs ht
                have d3 : (wr.setCell ⟨w6.heap.size, k, none⟩ (.int .u8 (s.toNat : Int))).cell? ⟨ba, oa + k, none⟩ = some (.int .u8 (y1.toNat : Int)) := by rw [World.cell?_setCell_other _ _ _ _ (fun x => by injection x; omega)]; exact d1
                have c4 : (wr.setCell ⟨w6.heap.size, k, none⟩ (.int .u8 (s.toNat : Int))).cell? ⟨w6.heap.size + 1, k, none⟩ = some u2 := by rw [World.cell?_setCell_other _ _ _ _ (fun x => by injection x; omega)]; exact c2
                have hK4 : Hid (Keeps w6 (wr.setCell ⟨w6.heap.size, k, none⟩ (.int .u8 (s.toNat : Int)))) := hK.out.setCell (Nat.le_refl _) _
                have hT4 : Hid (Tab (wr.setCell ⟨w6.heap.size, k, none⟩ (.int .u8 (s.toNat : Int))).heap tb) := Tab.keeps HT.out hK4.out
                go_wp2_with fail
                go_region_with ((go_at_call 36; refine Calls.mono (gadd_s _ _ _ s _ HS.out) ?_; rintro e w' ⟨rfl, rfl⟩))
                all_goals
                  go_wp2_with (go_at_call 35; refine Calls.mono (gmul_s _ _ _ t _ HTT.out ?_) ?_; exact hT4.out; rintro e w' ⟨rfl, n9, rfl⟩)
                  have q1 : Hid (Row' w6.heap.size (k + 1) a.length (fun i => a.getD i 0 ^^^ b.getD i 0) ((wr.setCell ⟨w6.heap.size, k, none⟩ (.int .u8 (s.toNat : Int))).drewN (1 + n9)).heap) := G1
                  have q2 : Hid (Chg (fun x => x = w6.heap.size) wr ((wr.setCell ⟨w6.heap.size, k, none⟩ (.int .u8 (s.toNat : Int))).drewN (1 + n9))) := (Chg.setCell (T := fun x => x = w6.heap.size) (Chg.refl _ wr) (fun _ => rfl) _ : Chg _ wr (wr.setCell ⟨w6.heap.size, k, none⟩ (.int .u8 (s.toNat : Int))))
                  have q3 : Hid (Keeps w6 ((wr.setCell ⟨w6.heap.size, k, none⟩ (.int .u8 (s.toNat : Int))).drewN (1 + n9))) := hK4
                  have q4 : Hid (w6.heap.size + 1 < ((wr.setCell ⟨w6.heap.size, k, none⟩ (.int .u8 (s.toNat : Int))).drewN (1 + n9)).heap.size) := by show _ < (World.heap (wr.setCell ⟨w6.heap.size, k, none⟩ (.int .u8 (s.toNat : Int)))).size; rw [World.size_setCell]; exact n2
                  generalize ((wr.setCell ⟨w6.heap.size, k, none⟩ (.int .u8 (s.toNat : Int))).drewN (1 + n9)) = ws at *
                  exact ⟨⟨k + 1, by omega, rfl, Row'.chg q1.out (T := fun x => x = w6.heap.size + 1) (Chg.setCell (T := fun x => x = w6.heap.size + 1) (Chg.refl _ ws) (fun _ => rfl) _) (by have := q4.out; omega) (by omega), G2.out ws q2.out, q3.out.setCell (Nat.le_succ _) _, by show _ < (World.heap (World.setCell ws _ _)).size; rw [World.size_setCell]; exact q4.out⟩, by simp [intOf]; omega⟩
              ·
                obtain rfl : k = a.length := by omega
                have HS : Hid (RowAt wr.heap (.slice (some ⟨w6.heap.size, 0, none⟩) a.length a.length) (sumL a b)) := SeqIn.at_ (hR1.out.row (by omega) (fun _ => True) trivial)
                have HT2 : Hid (RowAt wr.heap (.slice (some ⟨w6.heap.size + 1, 0, none⟩) a.length a.length) (timesL a x)) := SeqIn.at_ (hR2.out.row (by omega) (fun _ => True) trivial)
                have hk := hK.out
                have HM := Lib.hid (MatAt.keeps HM.out hk)
                have HA := Lib.hid (SeqAt.keeps HA.out hk)
                have HB := Lib.hid (SeqAt.keeps HB.out hk)
                have HT := Lib.hid (Tab.keeps HT.out hk)
                have HK : Hid (Keeps w wr) := HK.out.call hk (Nat.le_refl _)
                clear hk
                clear hR1 hR2
                by_cases hv : (vecM m a).2 = 0
                ·
                  obtain ⟨P, Q, S, T, hP, hQ, hS, hT, lP, lQ, lS, lT, hall⟩ := sums_all x HAB.out hv
                  have EP := Lib.hid hP
                  have EQ := Lib.hid hQ
                  have ES := Lib.hid hS
                  have ET := Lib.hid hT
                  have LP := Lib.hid lP
                  have LQ := Lib.hid lQ
                  have LS := Lib.hid lS
                  have LT := Lib.hid lT
                  have ALL := Lib.hid hall
                  have nP : ((P.length : Int) != (m.length : Int)) = false := by rw [bne_eq_false_iff_eq, lP]
                  have nQ : ((Q.length : Int) != (m.length : Int)) = false := by rw [bne_eq_false_iff_eq, lQ]
                  have nS : ((S.length : Int) != (m.length : Int)) = false := by rw [bne_eq_false_iff_eq, lS]
                  have nT : ((T.length : Int) != (m.length : Int)) = false := by rw [bne_eq_false_iff_eq, lT]
                  clear hP hQ hS hT lP lQ lS lT hall hv
                  go_wp2_with fail
                  refine Calls.mono (gaveR (matvec_any _ _ m a wr HM.out HA.out) EP.out) ?_
                  rintro e w7 ⟨v0, rfl, hVP, hk⟩
                  have HM := Lib.hid (MatAt.keeps HM.out hk)
                  have HA := Lib.hid (SeqAt.keeps HA.out hk)
                  have HB := Lib.hid (SeqAt.keeps HB.out hk)
                  have HT := Lib.hid (Tab.keeps HT.out hk)
                  have HS := Lib.hid (SeqAt.keeps HS.out hk)
                  have HT2 := Lib.hid (SeqAt.keeps HT2.out hk)
                  have HK : Hid (Keeps w w7) := HK.out.call hk (Nat.le_refl _)
                  clear hk
                  have VP := Lib.hid (SeqIn.at_ hVP)
                  clear hVP
                  obtain ⟨p0, q0, ev⟩ := seq_shape VP.out
                  subst ev
                  go_wp2_with fail
                  refine Calls.mono (gaveR (matvec_any _ _ m b w7 HM.out HB.out) EQ.out) ?_
                  rintro e w8 ⟨v1, rfl, hVQ, hk⟩
                  have HM := Lib.hid (MatAt.keeps HM.out hk)
                  have HA := Lib.hid (SeqAt.keeps HA.out hk)
                  have HB := Lib.hid (SeqAt.keeps HB.out hk)
                  have HT := Lib.hid (Tab.keeps HT.out hk)
                  have HS := Lib.hid (SeqAt.keeps HS.out hk)
                  have HT2 := Lib.hid (SeqAt.keeps HT2.out hk)
                  have VP := Lib.hid (SeqAt.keeps VP.out hk)
                  have HK : Hid (Keeps w w8) := HK.out.call hk (Nat.le_refl _)
                  clear hk
                  have VQ := Lib.hid (SeqIn.at_ hVQ)
                  clear hVQ
                  obtain ⟨p1, q1, ev⟩ := seq_shape VQ.out
                  subst ev
                  go_wp2_with fail
                  refine Calls.mono (gaveR (matvec_any _ _ m (sumL a b) w8 HM.out HS.out) ES.out) ?_
                  rintro e w9 ⟨v2, rfl, hVS, hk⟩
                  have HM := Lib.hid (MatAt.keeps HM.out hk)
                  have HA := Lib.hid (SeqAt.keeps HA.out hk)
                  have HB := Lib.hid (SeqAt.keeps HB.out hk)
                  have HT := Lib.hid (Tab.keeps HT.out hk)
                  have HS := Lib.hid (SeqAt.keeps HS.out hk)
                  have HT2 := Lib.hid (SeqAt.keeps HT2.out hk)
                  have VP := Lib.hid (SeqAt.keeps VP.out hk)
                  have VQ := Lib.hid (SeqAt.keeps VQ.out hk)
                  have HK : Hid (Keeps w w9) := HK.out.call hk (Nat.le_refl _)
                  clear hk
                  have VS := Lib.hid (SeqIn.at_ hVS)
                  clear hVS
                  obtain ⟨p2, q2, ev⟩ := seq_shape VS.out
                  subst ev
                  go_wp2_with fail
                  refine Calls.mono (gaveR (matvec_any _ _ m (timesL a x) w9 HM.out HT2.out) ET.out) ?_
                  rintro e w10 ⟨v3, rfl, hVT, hk⟩
                  have HM := Lib.hid (MatAt.keeps HM.out hk)
                  have HA := Lib.hid (SeqAt.keeps HA.out hk)
                  have HB := Lib.hid (SeqAt.keeps HB.out hk)
                  have HT := Lib.hid (Tab.keeps HT.out hk)
                  have HS := Lib.hid (SeqAt.keeps HS.out hk)
                  have HT2 := Lib.hid (SeqAt.keeps HT2.out hk)
                  have VP := Lib.hid (SeqAt.keeps VP.out hk)
                  have VQ := Lib.hid (SeqAt.keeps VQ.out hk)
                  have VS := Lib.hid (SeqAt.keeps VS.out hk)
                  have HK : Hid (Keeps w w10) := HK.out.call hk (Nat.le_refl _)
                  clear hk
                  have VT := Lib.hid (SeqIn.at_ hVT)
                  clear hVT
                  obtain ⟨p3, q3, ev⟩ := seq_shape VT.out
                  subst ev
                  go_wp2_with fail
                  clear nP nQ nS nT
                  go_loopw [22] (fun i wr => ∃ k : Nat, k ≤ m.length ∧ i = .int .i64 k ∧ Hid (Keeps w10 wr)) (fun i _ => m.length - (intOf i).toNat)
                  case atStart => exact ⟨0, by omega, rfl, keeps_refl _⟩
                  case round =>
                    obtain ⟨k, hk0, rfl, hKr⟩ := hrel
                    have hk := hKr.out
                    have HT := Lib.hid (Tab.keeps HT.out hk)
                    have VP := Lib.hid (SeqAt.keeps VP.out hk)
                    have VQ := Lib.hid (SeqAt.keeps VQ.out hk)
                    have VS := Lib.hid (SeqAt.keeps VS.out hk)
                    have VT := Lib.hid (SeqAt.keeps VT.out hk)
                    have HK : Hid (Keeps w wr) := HK.out.call hk (Nat.le_refl _)
                    clear hk
                    by_cases hlt : k < m.length
                    ·
                      obtain ⟨s1, s2⟩ := ALL.out k hlt
                      have hge0 : (0 : Int) ≤ (k : Int) := by omega
                      have hltm : (k : Int) < (m.length : Int) := by omega
                      have hP64 : (k : Int) < (P.length : Int) := by have := LP.out; omega
                      obtain ⟨b0, o0, c0, e1, d0⟩ := row_cell VP.out (j := k) (by have := LP.out; omega)
                      injection e1 with e1 e2 e3
                      subst e1 e3
                      clear e2
                      have hQ64 : (k : Int) < (Q.length : Int) := by have := LQ.out; omega
                      obtain ⟨b1, o1, c1, e1, d1⟩ := row_cell VQ.out (j := k) (by have := LQ.out; omega)
                      injection e1 with e1 e2 e3
                      subst e1 e3
                      clear e2
                      have hS64 : (k : Int) < (S.length : Int) := by have := LS.out; omega
                      obtain ⟨b2, o2, c2, e1, d2⟩ := row_cell VS.out (j := k) (by have := LS.out; omega)
                      injection e1 with e1 e2 e3
                      subst e1 e3
                      clear e2
                      have hT64 : (k : Int) < (T.length : Int) := by have := LT.out; omega
                      obtain ⟨b3, o3, c3, e1, d3⟩ := row_cell VT.out (j := k) (by have := LT.out; omega)
                      injection e1 with e1 e2 e3
                      subst e1 e3
                      clear e2
                      generalize P.getD k 0 = yp at *
                      generalize Q.getD k 0 = yq at *
                      generalize S.getD k 0 = ys at *
                      generalize T.getD k 0 = yt at *
                      have H1 := Lib.hid s1.symm
                      have H2 := Lib.hid s2.symm
                      have z1 : ((ys.toNat : Int) != (ys.toNat : Int)) = false := byte_ne _ _ rfl
                      have z2 : ((yt.toNat : Int) != (yt.toNat : Int)) = false := byte_ne _ _ rfl
                      clear s1 s2
                      go_wp2_with fail
                      go_quiet (first | (go_at_call 36; refine Calls.mono (gadd_s _ _ _ ys _ H1.out) ?_; rintro e w' ⟨rfl, rfl⟩; exact ⟨rfl, _, rfl⟩) | (go_at_call 35; refine Calls.mono (gmul_s _ _ _ yt _ H2.out ?_) ?_; exact HT.out; rintro e w' ⟨rfl, n9, rfl⟩; first | exact ⟨rfl, _, rfl⟩ | exact ⟨rfl, _, World.drewN_drewN _ _ _⟩))
                      go_wp2
                      exact ⟨⟨k + 1, by omega, rfl, hKr⟩, by simp [intOf]; omega⟩
                    ·
                      go_wp2
                      go_ret
                      exact ⟨rfl, HK.out⟩
                ·
                  obtain ⟨hP, hQ, hS, hT⟩ := sums_none x HAB.out hv
                  have EP := Lib.hid hP
                  have EQ := Lib.hid hQ
                  have ES := Lib.hid hS
                  have ET := Lib.hid hT
                  clear hP hQ hS hT hv
                  go_wp2_with fail
                  refine Calls.mono (gaveR (matvec_any _ _ m a wr HM.out HA.out) EP.out) ?_
                  rintro e w11 ⟨v0, rfl, hVP, hk⟩
                  have HM := Lib.hid (MatAt.keeps HM.out hk)
                  have HA := Lib.hid (SeqAt.keeps HA.out hk)
                  have HB := Lib.hid (SeqAt.keeps HB.out hk)
                  have HT := Lib.hid (Tab.keeps HT.out hk)
                  have HS := Lib.hid (SeqAt.keeps HS.out hk)
                  have HT2 := Lib.hid (SeqAt.keeps HT2.out hk)
                  have HK : Hid (Keeps w w11) := HK.out.call hk (Nat.le_refl _)
                  clear hk
                  have VP := Lib.hid (SeqIn.at_ hVP)
                  clear hVP
                  obtain ⟨p0, q0, ev⟩ := seq_shape VP.out
                  subst ev
                  go_wp2_with fail
                  refine Calls.mono (gaveR (matvec_any _ _ m b w11 HM.out HB.out) EQ.out) ?_
                  rintro e w12 ⟨v1, rfl, hVQ, hk⟩
                  have HM := Lib.hid (MatAt.keeps HM.out hk)
                  have HA := Lib.hid (SeqAt.keeps HA.out hk)
                  have HB := Lib.hid (SeqAt.keeps HB.out hk)
                  have HT := Lib.hid (Tab.keeps HT.out hk)
                  have HS := Lib.hid (SeqAt.keeps HS.out hk)
                  have HT2 := Lib.hid (SeqAt.keeps HT2.out hk)
                  have VP := Lib.hid (SeqAt.keeps VP.out hk)
                  have HK : Hid (Keeps w w12) := HK.out.call hk (Nat.le_refl _)
                  clear hk
                  have VQ := Lib.hid (SeqIn.at_ hVQ)
                  clear hVQ
                  obtain ⟨p1, q1, ev⟩ := seq_shape VQ.out
                  subst ev
                  go_wp2_with fail
                  refine Calls.mono (gaveR (matvec_any _ _ m (sumL a b) w12 HM.out HS.out) ES.out) ?_
                  rintro e w13 ⟨v2, rfl, hVS, hk⟩
                  have HM := Lib.hid (MatAt.keeps HM.out hk)
                  have HA := Lib.hid (SeqAt.keeps HA.out hk)
                  have HB := Lib.hid (SeqAt.keeps HB.out hk)
                  have HT := Lib.hid (Tab.keeps HT.out hk)
                  have HS := Lib.hid (SeqAt.keeps HS.out hk)
                  have HT2 := Lib.hid (SeqAt.keeps HT2.out hk)
                  have VP := Lib.hid (SeqAt.keeps VP.out hk)
                  have VQ := Lib.hid (SeqAt.keeps VQ.out hk)
                  have HK : Hid (Keeps w w13) := HK.out.call hk (Nat.le_refl _)
                  clear hk
                  have VS := Lib.hid (SeqIn.at_ hVS)
                  clear hVS
                  obtain ⟨p2, q2, ev⟩ := seq_shape VS.out
                  subst ev
                  go_wp2_with fail
                  refine Calls.mono (gaveR (matvec_any _ _ m (timesL a x) w13 HM.out HT2.out) ET.out) ?_
                  rintro e w14 ⟨v3, rfl, hVT, hk⟩
                  have HM := Lib.hid (MatAt.keeps HM.out hk)
                  have HA := Lib.hid (SeqAt.keeps HA.out hk)
                  have HB := Lib.hid (SeqAt.keeps HB.out hk)
                  have HT := Lib.hid (Tab.keeps HT.out hk)
                  have HS := Lib.hid (SeqAt.keeps HS.out hk)
                  have HT2 := Lib.hid (SeqAt.keeps HT2.out hk)
                  have VP := Lib.hid (SeqAt.keeps VP.out hk)
                  have VQ := Lib.hid (SeqAt.keeps VQ.out hk)
                  have VS := Lib.hid (SeqAt.keeps VS.out hk)
                  have HK : Hid (Keeps w w14) := HK.out.call hk (Nat.le_refl _)
                  clear hk
                  have VT := Lib.hid (SeqIn.at_ hVT)
                  clear hVT
                  obtain ⟨p3, q3, ev⟩ := seq_shape VT.out
                  subst ev
                  go_wp2
                  go_ret
                  exact ⟨rfl, HK.out⟩
      ·
        have ib : ((a.length : Int) != (b.length : Int)) = true := by rw [bne_iff_ne]; omega
        go_enter Try.func6, Try.ntmps6
        go_wp2_with fail
        refine Calls.mono (works_any w) ?_
        rintro e w15 ⟨rfl, hk⟩
        have HM := Lib.hid (MatAt.keeps HM.out hk)
        have HA := Lib.hid (SeqAt.keeps HA.out hk)
        have HB := Lib.hid (SeqAt.keeps HB.out hk)
        have HK : Hid (Keeps w w15) := HK.out.call hk (Nat.le_refl _)
        clear hk
        go_wp2_with fail
        refine Calls.mono (works_any w15) ?_
        rintro e w16 ⟨rfl, hk⟩
        have HM := Lib.hid (MatAt.keeps HM.out hk)
        have HA := Lib.hid (SeqAt.keeps HA.out hk)
        have HB := Lib.hid (SeqAt.keeps HB.out hk)
        have HK : Hid (Keeps w w16) := HK.out.call hk (Nat.le_refl _)
        clear hk
        go_wp2
        go_ret
        exact ⟨rfl, HK.out⟩
end Go.Proofs.Ytojdodbedemkoaa
