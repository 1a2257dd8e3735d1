/- The walk of package solve's down. -/
import Derived.Test.YtllfhaocdknejaaDoorDown5L
import Derived.Test.YtllfhaocdknejaaDoorOwn5
import Derived.Test.YtllfhaocdknejaaDoorLit5
import Derived.Test.YtllfhaocdknejaaDoorRowF5
import Derived.WalkMore
namespace Go.Proofs.YtllfhaocdknejaaDoor
open Go.RowKit
theorem enters_times (xs : Array Value) (w : World) : (callFunc 65 xs).run Tryd.prog w = .ok (.enter 65 xs) w := enters_body Tryd.func65 (by kernel_rfl) rfl xs w
theorem enters_plus (xs : Array Value) (w : World) : (callFunc 66 xs).run Tryd.prog w = .ok (.enter 66 xs) w := enters_body Tryd.func66 (by kernel_rfl) rfl xs w
theorem bz_no (x : UInt8) (h : x ≠ 0) : ((x.toNat : Int) == 0) = false := by
  refine beq_eq_false_iff_ne.2 fun e => h ?_
  exact UInt8.toNat_inj.1 (by show x.toNat = 0; omega)
theorem ginv_e (b : Nat) (x y : UInt8) (w : World) (h : LA.inv x = y) (ht : Tab w.heap b) :
    Calls Tryd.prog 46 #[.pointer (some ⟨b, 0, none⟩), .int .u8 (x.toNat : Int)] w fun e w' => e = .returned (.tuple #[.int .u8 (y.toNat : Int), .bool (decide ((x.toNat : Int) ≠ 0))]) ∧ ∃ n, w' = w.drewN n := by
  subst h
  refine (inv_tab b _ w ht (by have := x.toNat_lt; omega)).mono ?_
  rintro e w' ⟨rfl, h⟩
  exact ⟨by rw [LA.inv_toNat]; rfl, h⟩

/-- The rows while the others are cleared: k of them. -/
def clearF (d c k : Nat) (P : Nat → UInt8) (F : Nat → Nat → UInt8) : Nat → Nat → UInt8 := fun i => if i = d then P else if i < k then (fun j => F i j ^^^ LA.mul (P j) (F i c)) else F i
theorem clearF_next {d c k : Nat} {P : Nat → UInt8} {F : Nat → Nat → UInt8} (hk : k ≠ d) : clearF d c (k + 1) P F = fun i => if i = k then (fun j => F k j ^^^ LA.mul (P j) (F k c)) else clearF d c k P F i := by
  funext i
  unfold clearF
  by_cases e : i = k
  · subst e; rw [if_neg hk, if_pos (by omega), if_pos rfl]
  · rw [if_neg e]
    by_cases e2 : i = d
    · rw [if_pos e2, if_pos e2]
    · rw [if_neg e2, if_neg e2]
      by_cases e3 : i < k
      · rw [if_pos (by omega), if_pos e3]
      · rw [if_neg (by omega), if_neg e3]
theorem clearF_same {d c : Nat} {P : Nat → UInt8} {F : Nat → Nat → UInt8} : clearF d c (d + 1) P F = clearF d c d P F := by
  funext i
  unfold clearF
  by_cases e2 : i = d
  · rw [if_pos e2, if_pos e2]
  · rw [if_neg e2, if_neg e2]
    by_cases e3 : i < d
    · rw [if_pos (by omega), if_pos e3]
    · rw [if_neg (by omega), if_neg e3]
theorem clearF_step {s : LA.Mat × Nat} {c n a L : Nat} (hr : LA.Rect s.1 n) (f : LA.Found s c a) (hL : s.1.length = L) (hd : s.2 ≤ L) {d : Nat} (hdd : d = s.2) {i : Nat} (hi : i < L) (j : Nat) :
    clearF d c L (fun j => LA.mul (LA.at_ s.1 a j) (LA.inv (LA.at_ s.1 a c))) (fun i => LA.at_ s.1 (LA.ri d a i)) i j = LA.at_ (LA.step c s).1 i j := by
  subst hdd hL
  rw [step_at hr f hd hi]
  unfold clearF
  by_cases e : i = s.2
  · rw [if_pos e, if_pos e]
  · rw [if_neg e, if_neg e, if_pos hi]

/-- What down does: the matrix is stepped down where it lies; nothing else that was there turns. -/
def Downed (B g cap L n : Nat) (m : LA.Mat) (w : World) (e : Ending) (w' : World) : Prop :=
  e = .returned (.int .i64 ((LA.dn m n).2 : Int)) ∧ (∃ ρ κ, Lies B w'.heap g cap L n (LA.at_ (LA.dn m n).1) ρ κ) ∧ Chg (fun b => B ≤ b) w w'

set_option maxRecDepth 100000 in
set_option maxHeartbeats 16000000 in
theorem down_any (B g cap n : Nat) (m : LA.Mat) (ρ0 κ0 : Nat → Nat) (w : World) (hl : Lies B w.heap g cap m.length n (LA.at_ m) ρ0 κ0) (hr : LA.Rect m n) (h1 : 1 ≤ m.length) (h2 : m.length ≤ 255) (h3 : 1 ≤ n) (h4 : n ≤ 600) :
    Calls Tryd.prog 51 #[.slice (some ⟨g, 0, none⟩) m.length cap] w (Downed B g cap m.length n m w) := by
  have hmf : ∀ (fn : Fn) (first caps : Array Value) (w : World), (Instr.makeFunc fn first caps).run Tryd.prog w = .ok (.func fn first caps) w := fun _ _ _ _ => rfl
  have hct := enters_times
  have hcp := enters_plus
  obtain ⟨N0, hN0⟩ : ∃ N0, N0 = w.heap.size := ⟨_, rfl⟩
  have hlow : Hid (∀ i, i < m.length → ρ0 i < N0) := fun i hi => by rw [hN0]; exact hl.rlt hi
  have hgN : g < N0 := by rw [hN0]; exact hl.lt
  have hBg : B ≤ g := hl.1
  have HL := Lib.hid hl
  have HR := Lib.hid hr
  have HN0 := Lib.hid hN0
  clear hl hr hN0
  go_enter Tryd.func51, Tryd.ntmps51
  go_wp2_with fail
  go_step3
  go_wp2_with fail
  refine Calls.mono (new_any _) ?_
  rintro e w1 ⟨rfl, hk1, ht1⟩
  rw [← HN0.out] at ht1 ⊢
  have hw1 := Lib.hid hk1.size
  go_wp2_with fail
  have hk2 : Keeps w (w1.alloc (.cells #[.pointer (some ⟨N0, 0, none⟩)] 83)) := Keeps.al hk1 _
  have HL2 : Hid (Lies B (w1.alloc (.cells #[.pointer (some ⟨N0, 0, none⟩)] 83)).heap g cap m.length n (LA.at_ m) ρ0 κ0) := HL.out.chg (T := fun _ => False) (Kept.any hk2) (fun _ _ _ x => x)
  have HT : Hid (Tab (w1.alloc (.cells #[.pointer (some ⟨N0, 0, none⟩)] 83)).heap N0) := ht1.keeps (Keeps.al (keeps_refl w1) _)
  have HK2 := Lib.hid hk2
  have HF : Hid ((w1.alloc (.cells #[.pointer (some ⟨N0, 0, none⟩)] 83)).cell? ⟨w1.heap.size, 0, none⟩ = some (.pointer (some ⟨N0, 0, none⟩))) := World.cell?_alloc_new _ _ _ _
  have hNb : N0 ≤ w1.heap.size := by rw [HN0.out]; exact hk1.size
  obtain ⟨c0, f0⟩ := HL2.out.cell (i := 0) (by omega)
  rw [← cell_of] at c0
  have hb0 : g < w1.heap.size := by omega
  have i1 : (0 : Int) < (m.length : Int) := by omega
  clear hk1 ht1 hk2 f0
  generalize hbf : w1.heap.size = bf at *
  generalize w1.alloc (.cells #[.pointer (some ⟨N0, 0, none⟩)] 83) = w2 at *
  go_step3
  go_wp2_with fail
  clear c0 hb0
  go_loopw [6, 20] (fun d i wr => ∃ c : Nat, c ≤ n ∧ i = .int .i64 c ∧ d = .int .i64 ((LA.dn m c).2 : Int) ∧ (LA.dn m c).2 < m.length ∧ Hid (∃ ρ κ, Lies B wr.heap g cap m.length n (LA.at_ (LA.dn m c).1) ρ κ ∧ ∀ i, i < m.length → ρ i < N0) ∧ Hid (Chg (fun b => B ≤ b ∧ b < N0) w2 wr)) (fun _ i _ => n - (intOf i).toNat)
  case atStart => exact ⟨0, by omega, rfl, rfl, h1, ⟨ρ0, κ0, HL2.out, hlow.out⟩, Chg.refl _ _⟩
  case round =>
    obtain ⟨c, hc, rfl, rfl, hd, hLr, hC⟩ := hrel
    by_cases hcn : c < n
    · have hsl : (LA.dn m c).1.length = m.length := (LA.dn_length m c).1
      have hrc : LA.Rect (LA.dn m c).1 n := dn_rect HR.out c
      have hstep : LA.dn m (c + 1) = LA.step c (LA.dn m c) := rfl
      have HST := Lib.hid hstep
      clear hstep
      generalize LA.dn m c = s at *
      obtain ⟨ρ, κ, hl, hlow2⟩ := hLr.out
      have HLR := Lib.hid hl
      have HLOW := Lib.hid hlow2
      have HRC := Lib.hid hrc
      have HSL := Lib.hid hsl
      clear hl hlow2 hrc hLr hsl
      obtain ⟨d, hdd⟩ : ∃ d, d = s.2 := ⟨_, rfl⟩
      rw [← hdd] at hd ⊢
      have HDD := Lib.hid hdd
      clear hdd
      have hc64 : (c : Int) < (n : Int) := by omega
      have hc0 : (0 : Int) ≤ (c : Int) := by omega
      go_wp2_with fail
      go_loop [8] (fun a => ∃ A : Nat, d ≤ A ∧ A < m.length ∧ a = .int .i64 A ∧ Hid (∀ i, d ≤ i → i < A → LA.at_ s.1 i c = 0)) (fun a => m.length - (intOf a).toNat)
      case atStart => exact ⟨d, Nat.le_refl _, hd, rfl, fun i _ _ => by omega⟩
      case round =>
        obtain ⟨A, hA1, hA2, rfl, hz⟩ := hrel
        have hA64 : (A : Int) < (m.length : Int) := by omega
        have hA0 : (0 : Int) ≤ (A : Int) := by omega
        obtain ⟨c1, f1⟩ := HLR.out.cell hA2
        obtain ⟨_, c2⟩ := (HLR.out.row hA2).2 c hcn
        rw [← cell_of] at c1 c2
        by_cases hv : LA.at_ s.1 A c = 0
        · have e0 : (((LA.at_ s.1 A c).toNat : Int) == 0) = true := by rw [hv]; rfl
          have HZ : Hid (∀ i, d ≤ i → i < A + 1 → LA.at_ s.1 i c = 0) := fun i h1 h2 => by
            by_cases e : i = A
            · subst e; exact hv
            · exact hz.out i h1 (by omega)
          clear hv f1
          generalize LA.at_ s.1 A c = x at *
          by_cases hlast : A + 1 = m.length
          · have hq : (((A : Int) + 1) == (m.length : Int)) = true := by rw [beq_iff_eq]; omega
            have HSN : Hid (LA.step c s = s) := step_none (by rw [HSL.out, ← HDD.out]; omega) fun i h1 h2 => HZ.out i (by rw [HDD.out]; exact h1) (by rw [HSL.out] at h2; omega)
            go_wp2
            exact ⟨⟨c + 1, by omega, by go_num, by rw [HST.out, HSN.out, HDD.out], by rw [HST.out, HSN.out, ← HDD.out]; exact hd, ⟨ρ, κ, by rw [HST.out, HSN.out]; exact HLR.out, HLOW.out⟩, hC⟩, by simp [intOf]; omega⟩
          · have hq : (((A : Int) + 1) == (m.length : Int)) = false := beq_eq_false_iff_ne.2 (by omega)
            go_wp2
            go_round
            case rel => exact ⟨A + 1, by omega, by omega, by go_num, HZ⟩
            case measure => simp [intOf]; omega
        · have e0 : (((LA.at_ s.1 A c).toNat : Int) == 0) = false := bz_no _ hv
          have HFO : Hid (LA.Found s c A) := ⟨by rw [← HDD.out]; exact hA1, by rw [HSL.out]; exact hA2, hv, fun i h1 h2 => hz.out i (by rw [HDD.out]; exact h1) h2⟩
          have hle := HLR.out.le
          obtain ⟨cur, hcur1, hcur2, hcur3⟩ := HLR.out.2.1
          obtain ⟨p1, q1, hs1, hp1⟩ := cut_rows g m.length cap (d + 1) (A + 1) ((d : Int) + 1) ((A : Int) + 1) (by omega) (by omega) (by omega) (by omega)
          obtain ⟨p2, q2, hs2, hp2⟩ := cut_rows g m.length cap d A (d : Int) (A : Int) rfl rfl hA1 (by omega)
          rw [show A + 1 - (d + 1) = A - d from by omega] at hs1
          have HP1 : Hid (d < A → p1 = some ⟨g, d + 1, none⟩) := fun h => hp1 (by omega)
          have HP2 := Lib.hid hp2
          have HROT := Lib.hid (HLR.out.rotate hA1 hA2 cur hcur1 hcur2 hcur3)
          have HSET := Lib.hid (setRow_heap wr g cur.toArray (cur.take (d + 1) ++ ((cur.drop d).take (A - d) ++ cur.drop (d + 1 + (A - d)))).toArray 39 (0, 0) hcur1)
          have HG := Lib.hid hcur1
          have HC2 := Lib.hid hcur2
          have HC3 := Lib.hid hcur3
          have hd64 : (d : Int) < (m.length : Int) := by omega
          have hd0 : (0 : Int) ≤ (d : Int) := by omega
          clear hp1 hp2 hcur1 hcur2 hcur3 f1
          go_wp2_with fail
          clear e0 c2
          refine wp_region_tail (List.dropLast _) (List.getLast _ (List.cons_ne_nil _ _)) (List.dropLast_concat_getLast _).symm (by kernel_rfl) (by kernel_rfl) (by kernel_rfl) (by kernel_rfl) rfl (by kernel_rfl) ?_; simp only [List.dropLast_cons_cons, List.dropLast_singleton, List.getLast_cons_cons, List.getLast_singleton]; (repeat (go_big_quiet_step (fail))); refine wpQuiet_nil ?_; intro _ hw1; obtain ⟨nq, hw2⟩ := hw1; subst hw2
          go_wp2_with (refine wp_copy_up rfl _ _ rfl g cur HG.out d A hA1 (by have := HC2.out; omega) p1 p2 q1 q2 rfl rfl HP1.out HP2.out ?h1 ?_)
          case h1 => exact fun i u hi hu => by rw [HC3.out i (by omega)] at hu; cases hu; rfl
          intro ci
          have HROT : Hid (Lies B ((((wr.drewN nq).setRow g (cur.take (d + 1) ++ ((cur.drop d).take (A - d) ++ cur.drop (d + 1 + (A - d)))).toArray).setCell ⟨g, d, none⟩ (.slice (some ⟨ρ A, 0, none⟩) n (κ A))).heap) g cap m.length n (fun i => LA.at_ s.1 (LA.ri d A i)) (fun i => ρ (LA.ri d A i)) (fun i => κ (LA.ri d A i))) := HROT
          have HSET : Hid (((wr.drewN nq).setRow g (cur.take (d + 1) ++ ((cur.drop d).take (A - d) ++ cur.drop (d + 1 + (A - d)))).toArray).heap[g]? = some (.cells (cur.take (d + 1) ++ ((cur.drop d).take (A - d) ++ cur.drop (d + 1 + (A - d)))).toArray 39 (0, 0))) := HSET
          have HCH : Hid (Chg (fun b => B ≤ b ∧ b < N0) w2 ((wr.drewN nq).setRow g (cur.take (d + 1) ++ ((cur.drop d).take (A - d) ++ cur.drop (d + 1 + (A - d)))).toArray)) := Chg.trans (b := wr.drewN nq) hC.out ((setRow_chg (wr.drewN nq) g _).mono fun b _ h => by rw [h]; exact ⟨hBg, hgN⟩)
          have HXL : Hid (d < (cur.take (d + 1) ++ ((cur.drop d).take (A - d) ++ cur.drop (d + 1 + (A - d)))).length) := by have := HC2.out; show _ < _; simp; omega
          generalize cur.take (d + 1) ++ ((cur.drop d).take (A - d) ++ cur.drop (d + 1 + (A - d))) = X at *
          have cS : ((wr.drewN nq).setRow g X.toArray).cell? ⟨g, d, none⟩ = some (X[d]'HXL.out) := by
            rw [cell_of_row _ g d X.toArray 39 (0, 0) HSET.out, List.getElem?_toArray, List.getElem?_eq_getElem HXL.out]
          have fS : ((wr.drewN nq).setRow g X.toArray).frozen? ⟨g, d, none⟩ = false := by unfold World.frozen?; simp only [HSET.out]; simp
          generalize (wr.drewN nq).setRow g X.toArray = w4 at *
          generalize X[d]'HXL.out = uX at *
          clear hs1 hs2
          obtain ⟨ρ', hρ'⟩ : ∃ ρ' : Nat → Nat, ρ' = fun i => ρ (LA.ri d A i) := ⟨_, rfl⟩
          obtain ⟨κ', hκ'⟩ : ∃ κ' : Nat → Nat, κ' = fun i => κ (LA.ri d A i) := ⟨_, rfl⟩
          have hrd : LA.ri d A d = A := by unfold LA.ri; rw [if_neg (by omega), if_pos rfl]
          have hr1 : Hid (ρ' d = ρ A) := by show _ = _; rw [hρ']; show ρ (LA.ri d A d) = _; rw [hrd]
          have HLOW2 : Hid (∀ i, i < m.length → ρ' i < N0) := fun i hi => by rw [hρ']; exact HLOW.out _ (LA.ri_lt hA1 hA2 hi)
          have HFD : Hid ((fun i => LA.at_ s.1 (LA.ri d A i)) d = LA.at_ s.1 A) := by show LA.at_ s.1 (LA.ri d A d) = _; rw [hrd]
          have HCS : Hid (∀ i j, i < m.length → clearF d c m.length (fun j => LA.mul (LA.at_ s.1 A j) (LA.inv (LA.at_ s.1 A c))) (fun i => LA.at_ s.1 (LA.ri d A i)) i j = LA.at_ (LA.dn m (c + 1)).1 i j) := fun i j hi => by
            rw [HST.out]; exact clearF_step HRC.out HFO.out HSL.out (by rw [← HDD.out]; omega) HDD.out hi j
          have HS2 : Hid ((LA.dn m (c + 1)).2 = d + 1) := by show _ = _; rw [HST.out, step_done1 HFO.out (by rw [HSL.out, ← HDD.out]; omega), HDD.out]
          rw [← hρ', ← hκ'] at HROT
          clear hρ' hκ' hrd
          have HFA : Hid (∀ j, LA.at_ s.1 A j = LA.at_ s.1 A j) := fun _ => rfl
          generalize hPf : LA.at_ s.1 A = f at *
          generalize (fun i => LA.at_ s.1 (LA.ri d A i)) = F at *
          have HCH5 : Hid (Chg (fun b => B ≤ b ∧ b < N0) w2 (w4.setCell ⟨g, d, none⟩ (.slice (some ⟨ρ A, 0, none⟩) n (κ A)))) := HCH.out.setCell (fun _ => ⟨hBg, hgN⟩) _
          generalize ρ A = r at *
          generalize κ A = κr at *
          have HRN : Hid (r < N0) := by have := HLOW2.out d hd; rw [hr1.out] at this; exact this
          clear c1 hv
          go_wp2_with fail
          clear cS fS
          generalize w4.setCell ⟨g, d, none⟩ (.slice (some ⟨r, 0, none⟩) n κr) = w5 at *
          obtain ⟨y, hy⟩ : ∃ y, LA.inv (f c) = y := ⟨_, rfl⟩
          rw [hy] at HCS
          have HY := Lib.hid hy
          clear hy
          have HR5 : Hid (RowF w5.heap r n f) := by
            have := HROT.out.row hd
            rw [hr1.out, HFD.out] at this; exact this
          obtain ⟨_, c3⟩ := HR5.out.2 c hcn
          rw [← cell_of] at c3
          have c4 : w5.cell? ⟨bf, 0, none⟩ = some (.pointer (some ⟨N0, 0, none⟩)) := by
            rw [cell_of]; exact cellH_chg HCH5.out (by rw [← cell_of]; exact HF.out) (fun h => by omega)
          have HT5 : Hid (Tab w5.heap N0) := HT.out.chg HCH5.out (fun h => by omega)
          go_quiet ((go_at_call 46; refine Calls.mono (ginv_e _ _ y _ HY.out ?_) ?_; exact HT5.out; rintro e w' ⟨rfl, n9, rfl⟩; first | exact ⟨rfl, _, rfl⟩ | exact ⟨rfl, _, World.drewN_drewN _ _ _⟩))
          have HROT : Hid (Lies B (w5.drewN nq).heap g cap m.length n F ρ' κ') := HROT
          have HCH5 : Hid (Chg (fun b => B ≤ b ∧ b < N0) w2 (w5.drewN nq)) := HCH5
          have HR5 : Hid (RowF (w5.drewN nq).heap r n f) := HR5
          have HT5 : Hid (Tab (w5.drewN nq).heap N0) := HT5
          have c4 : (w5.drewN nq).cell? ⟨bf, 0, none⟩ = some (.pointer (some ⟨N0, 0, none⟩)) := c4
          clear c3
          generalize w5.drewN nq = w6 at *
          go_wp2_with fail
          refine Calls.mono (times_any r n κr bf N0 f y w6 (by omega) HR5.out c4 HT5.out (by have := HRN.out; omega) (by have := HRN.out; omega)) ?_
          rintro e w7 ⟨rfl, hf7, hc7⟩
          have HL7 : Hid (Lies B w7.heap g cap m.length n (clearF d c 0 (fun j => LA.mul (f j) y) F) ρ' κ') := by
            have := HROT.out.over hd (w' := w7) (by rw [hr1.out]; exact hc7) (f := fun j => LA.mul (f j) y) (by rw [hr1.out]; exact hf7)
            exact this.congr fun i hi j hj => by
              unfold clearF
              by_cases e : i = d
              · rw [if_pos e, if_pos e]
              · rw [if_neg e, if_neg e, if_neg (by omega)]
          have HCH7 : Hid (Chg (fun b => B ≤ b ∧ b < N0) w2 w7) := HCH5.out.trans (hc7.mono fun b _ h => by
            have h1 := (HROT.out.2.2.1 d hd).1
            rw [hr1.out] at h1
            rw [h]; exact ⟨h1, HRN.out⟩)
          clear hf7 hc7 c4 HR5 HT5
          go_wp2_with fail
          go_loopw [72] (fun i wx => ∃ k : Nat, k ≤ m.length ∧ i = .int .i64 k ∧ Hid (Lies B wx.heap g cap m.length n (clearF d c k (fun j => LA.mul (f j) y) F) ρ' κ') ∧ Hid (Chg (fun b => B ≤ b ∧ b < N0) w2 wx)) (fun i _ => m.length - (intOf i).toNat)
          case atStart => exact ⟨0, by omega, rfl, HL7, HCH7⟩
          case round =>
            obtain ⟨k, hk, rfl, hLk, hCk⟩ := hrel
            by_cases hkl : k < m.length
            · have k64 : (k : Int) < (m.length : Int) := by omega
              have k0 : (0 : Int) ≤ (k : Int) := by omega
              by_cases hkd : k = d
              · have hq : ((k : Int) != (d : Int)) = false := by rw [bne_eq_false_iff_eq, hkd]
                have HLn : Hid (Lies B wr.heap g cap m.length n (clearF d c (k + 1) (fun j => LA.mul (f j) y) F) ρ' κ') := by
                  have := hLk.out
                  rw [hkd] at this ⊢
                  rw [clearF_same]; exact this
                clear hkd
                go_wp2
                exact ⟨⟨k + 1, by omega, by go_num, HLn, hCk⟩, by simp [intOf]; omega⟩
              · have hq : ((k : Int) != (d : Int)) = true := by rw [bne_iff_ne]; omega
                obtain ⟨d1, _⟩ := hLk.out.cell hkl
                have hRk : Hid (RowF wr.heap (ρ' k) n (F k)) := (hLk.out.row hkl).congr fun j _ => by unfold clearF; rw [if_neg hkd, if_neg (by omega)]
                have hRd : Hid (RowF wr.heap r n (fun j => LA.mul (f j) y)) := by
                  have := hLk.out.row hd
                  rw [hr1.out] at this
                  exact this.congr fun j _ => by unfold clearF; rw [if_pos rfl]
                obtain ⟨_, d2⟩ := hRk.out.2 c hcn
                rw [← cell_of] at d1 d2
                have d3 : wr.cell? ⟨bf, 0, none⟩ = some (.pointer (some ⟨N0, 0, none⟩)) := by
                  rw [cell_of]; exact cellH_chg hCk.out (by rw [← cell_of]; exact HF.out) (fun h => by omega)
                have HTk : Hid (Tab wr.heap N0) := HT.out.chg hCk.out (fun h => by omega)
                have D3 := Lib.hid d3
                have hne : Hid (r ≠ ρ' k) := fun e => hkd (hLk.out.inj hkl hd (by rw [hr1.out]; exact e.symm))
                have hlk : Hid (ρ' k < N0) := HLOW2.out k hkl
                have hbk : Hid (B ≤ ρ' k) := (hLk.out.2.2.1 k hkl).1
                have HOV : Hid (∀ wx, Chg (fun b => b = ρ' k) wr wx → RowF wx.heap (ρ' k) n (fun j => F k j ^^^ LA.mul (LA.mul (f j) y) (F k c)) → Lies B wx.heap g cap m.length n (clearF d c (k + 1) (fun j => LA.mul (f j) y) F) ρ' κ') := fun wx hcx hfx => by
                  rw [clearF_next hkd]; exact hLk.out.over hkl hcx hfx
                generalize ρ' k = rk at *
                generalize κ' k = κk at *
                generalize F k = fk at *
                generalize fk c = xk at *
                clear d3
                go_wp2_with fail
                refine wp_region_tail (List.dropLast _) (List.getLast _ (List.cons_ne_nil _ _)) (List.dropLast_concat_getLast _).symm (by kernel_rfl) (by kernel_rfl) (by kernel_rfl) (by kernel_rfl) rfl (by kernel_rfl) ?_; simp only [List.dropLast_cons_cons, List.dropLast_singleton, List.getLast_cons_cons, List.getLast_singleton]; (repeat (go_big_quiet_step (fail))); refine wpQuiet_nil ?_; intro _ hw1; obtain ⟨nq, hw2⟩ := hw1; subst hw2
                go_wp2_with fail
                refine Calls.mono (plus_any rk r n κk κr bf N0 fk (fun j => LA.mul (f j) y) xk (wr.drewN nq) (by omega) hRk.out hRd.out D3.out HTk.out (by have := hlk.out; omega) (by have := hlk.out; omega) hne.out) ?_
                rintro e w8 ⟨rfl, hf8, hc8⟩
                have HL8 := Lib.hid (HOV.out w8 hc8 hf8)
                have HC8 : Hid (Chg (fun b => B ≤ b ∧ b < N0) w2 w8) := Chg.trans (b := wr.drewN nq) hCk.out (hc8.mono fun b _ h => by rw [h]; exact ⟨hbk.out, hlk.out⟩)
                clear hf8 hc8
                go_wp2
                exact ⟨⟨k + 1, by omega, by go_num, HL8, HC8⟩, by simp [intOf]; omega⟩
            · obtain rfl : k = m.length := by omega
              have HL9 : Hid (Lies B wr.heap g cap m.length n (LA.at_ (LA.dn m (c + 1)).1) ρ' κ') := hLk.out.congr fun i hi j _ => HCS.out i j hi
              by_cases hdone : d + 1 = m.length
              · have hq : (((d : Int) + 1) == (m.length : Int)) = true := by rw [beq_iff_eq]; omega
                have HDN : Hid (LA.dn m n = LA.dn m (c + 1)) := by
                  have := LA.dn_done (m := m) (n := c + 1) (by rw [HS2.out, hdone]) (n - (c + 1))
                  rw [show c + 1 + (n - (c + 1)) = n from by omega] at this
                  exact this
                go_wp2
                rw [Exit.noGoto_ret]
                go_ret
                exact ⟨ret_int (by rw [HDN.out, HS2.out]; omega), ⟨ρ', κ', by rw [HDN.out]; exact HL9.out⟩, (Kept.any HK2.out).trans (hCk.out.mono fun b _ h => h.1)⟩
              · have hq : (((d : Int) + 1) == (m.length : Int)) = false := beq_eq_false_iff_ne.2 (by omega)
                go_wp2
                exact ⟨⟨c + 1, by omega, by go_num, by rw [HS2.out]; go_num, by rw [HS2.out]; omega, ⟨ρ', κ', HL9.out, HLOW2.out⟩, hCk⟩, by simp [intOf]; omega⟩
    · obtain rfl : c = n := by omega
      obtain ⟨ρ, κ, hl, _⟩ := hLr.out
      have HLE := Lib.hid hl
      clear hl
      go_wp2
      rw [Exit.noGoto_ret]
      go_ret
      exact ⟨rfl, ⟨ρ, κ, HLE.out⟩, (Kept.any HK2.out).trans (hC.out.mono fun b _ h => h.1)⟩
end Go.Proofs.YtllfhaocdknejaaDoor
