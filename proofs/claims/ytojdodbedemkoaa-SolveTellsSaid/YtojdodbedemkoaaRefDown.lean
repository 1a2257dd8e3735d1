/- The walk of strongboxref04.down. -/
import Derived.Test.YtojdodbedemkoaaAppRow
import Derived.Test.YtojdodbedemkoaaDown
namespace Go.Proofs.Ytojdodbedemkoaa
open Go.RowKit
/-- The rows' places while row A goes up: the places from i on are moved. -/
def mv (A i : Nat) : Nat → Nat := fun q => if q ≤ i then q else if q ≤ A then q - 1 else q
theorem mv_start (A q : Nat) : mv A A q = q := by unfold mv; split <;> (try split) <;> omega
theorem grefinv (x y : UInt8) (w : World) (h : LA.inv x = y) :
    Calls Try.prog 54 #[.int .u8 (x.toNat : Int)] w fun e w' => e = .returned (.tuple #[.int .u8 (y.toNat : Int), .bool (decide ((x.toNat : Int) ≠ 0))]) ∧ w = w' := by
  subst h
  have hx := x.toNat_lt
  refine (refinv_any _ w (by omega)).mono ?_
  rintro e w' ⟨rfl, h⟩
  exact ⟨by rw [LA.inv_toNat]; rfl, h⟩
/-- The places of a block of rows while they are moved. -/
def Places (h : Array Obj) (g cap L n : Nat) (σ ρ κ : Nat → Nat) : Prop :=
  ∃ cur : List Value, h[g]? = some (.cells cur.toArray 33 (0, 0)) ∧ cur.length = cap ∧ ∀ q, q < L → cur[q]? = some (.slice (some ⟨ρ (σ q), 0, none⟩) n (κ (σ q)))
theorem Places.cell {w : World} {g cap L n : Nat} {σ ρ κ : Nat → Nat} (p : Places w.heap g cap L n σ ρ κ) {q : Nat} (hq : q < L) :
    w.cell? ⟨g, q, none⟩ = some (.slice (some ⟨ρ (σ q), 0, none⟩) n (κ (σ q))) ∧ w.frozen? ⟨g, q, none⟩ = false := by
  obtain ⟨cur, h1, h2, h3⟩ := p
  refine ⟨by rw [cell_of_row w g q _ _ _ h1]; simpa using h3 q hq, ?_⟩
  unfold World.frozen?; simp only [h1]; simp
theorem Places.set {w : World} {g cap L n : Nat} {σ τ ρ κ : Nat → Nat} (p : Places w.heap g cap L n σ ρ κ) (hL : L ≤ cap) {i k : Nat} (hi : i < L) (hτ : ∀ q, q < L → τ q = if q = i then k else σ q) :
    Places (w.setCell ⟨g, i, none⟩ (.slice (some ⟨ρ k, 0, none⟩) n (κ k))).heap g cap L n τ ρ κ := by
  obtain ⟨cur, h1, h2, h3⟩ := p
  refine ⟨cur.set i (.slice (some ⟨ρ k, 0, none⟩) n (κ k)), ?_, by simp [h2], fun q hq => ?_⟩
  · unfold World.setCell; simp [Array.getElem?_modify, h1]
  · rw [List.getElem?_set, hτ q hq]
    have hiL : i < cur.length := by omega
    by_cases e : i = q
    · subst e; rw [if_pos rfl, if_pos rfl]; simp [hiL]
    · rw [if_neg e, if_neg (fun x => e x.symm)]; exact h3 q hq
theorem Lies.places {B g cap L n : Nat} {F : Nat → Nat → UInt8} {ρ κ : Nat → Nat} {h : Array Obj} (l : Lies B h g cap L n F ρ κ) (A : Nat) : Places h g cap L n (mv A A) ρ κ := by
  obtain ⟨cur, h1, h2, h3⟩ := l.2.1
  exact ⟨cur, h1, h2, fun q hq => by rw [mv_start]; exact h3 q hq⟩
/-- What the reference's down hands back. -/
def RefDowned (w : World) (m : LA.Mat) (n : Nat) (e : Ending) (w' : World) : Prop :=
  ∃ g cap ρ κ, e = .returned (.tuple #[.slice (some ⟨g, 0, none⟩) m.length cap, .int .i64 ((LA.dn m n).2 : Int)]) ∧ Lies w.heap.size w'.heap g cap m.length n (LA.at_ (LA.dn m n).1) ρ κ ∧ Keeps w w'

set_option maxRecDepth 100000 in
set_option maxHeartbeats 16000000 in
theorem refdown_any (va : Value) (m : List (List UInt8)) (n : Nat) (w : World) (ha : MatAt w.heap va m) (hr : LA.Rect m n) (h1 : 1 ≤ m.length) (h2 : m.length ≤ 255) (h3 : 1 ≤ n) (h4 : n ≤ 600) :
    Calls Try.prog 72 #[va] w (RefDowned w m n) := by
  obtain ⟨pa, qa, rfl⟩ := seq_shape ha
  obtain ⟨ba, oa, rfl⟩ := mat_addr ha (by omega)
  have HA := Lib.hid ha
  have HR := Lib.hid hr
  clear ha hr
  go_enter Try.func72, Try.ntmps72
  go_wp2_with fail
  go_loopw [4, 5] (fun v i wr => ∃ k : Nat, k ≤ m.length ∧ i = .int .i64 k ∧ Hid (∃ ρ κ, Grows w.heap.size wr v k n (LA.at_ m) ρ κ) ∧ Hid (Keeps w wr)) (fun _ i _ => m.length - (intOf i).toNat)
  case atStart => exact ⟨0, by omega, rfl, ⟨_, _, Grows.nil _ _ _ _⟩, keeps_refl w⟩
  case round =>
    obtain ⟨k, hk, rfl, hR, hK⟩ := hrel
    by_cases hlt : k < m.length
    · have hlt64 : (k : Int) < (m.length : Int) := by omega
      have hge0 : (0 : Int) ≤ (k : Int) := by omega
      obtain ⟨b1, o1, c1, u1, e5, d1, r1⟩ := mat_row (HA.out.keeps hK.out) hlt
      injection e5 with e6 e7 e8
      simp only [Option.some.injEq, Addr.mk.injEq] at e6
      obtain ⟨rfl, rfl, _⟩ := e6
      subst e8
      clear e7
      have hrl : (m.getD k []).length = n := LA.rect_row HR.out hlt
      obtain ⟨q0, o0, c0, e9, _⟩ := row_cell (j := 0) r1 (by omega)
      subst e9
      rw [hrl] at d1 r1
      have HL0 : Hid ((m.getD k []).length = n) := hrl
      have HW : Hid (∀ j, j < n → (bytesV (m.getD k []))[j]? = some (.int .u8 ((LA.at_ m k j).toNat : Int))) := fun j hj => by
        have := wide_row (m := m) (k := k) (more := 0) hrl (us := bytesV (m.getD k [])) (by simp) j (by omega)
        exact this
      have hsz := hK.out.size
      have hb1 := cell_lt d1
      have R5 : Hid (RowAt (wr.alloc (.cells #[] 5)).heap (.slice (some ⟨q0, o0, none⟩) n c0) (m.getD k [])) := SeqAt.keeps r1 ((Kept.refl _ _).alloc (Nat.le_refl _) _)
      clear r1 hrl
      generalize m.getD k [] = r at *
      go_wp2_with (at_builtin; refine wp_apps elRow rfl _ _ rfl wr.heap.size _ [] rfl (own_empty _ _ _ (Nat.le_refl _)) q0 o0 n c0 (bytesV r) rfl (by rw [bytesV_length]; exact HL0.out) (bytesV_at R5.out) (bytesV_one r) ?c1 ?c2 ?_)
      case c1 => have := HL0.out; simp only [List.length_nil, bytesV_length]; omega
      case c2 => simp
      intro v6 w6 hown6 hchg6
      have hT : Hid (Chg (fun x => wr.heap.size ≤ x) wr w6) := (((Chg.refl _ wr).alloc _).trans (hchg6.mono fun x _ h => by simp only [Value.ownBlock, Option.some.injEq] at h; omega))
      have hown7 : w6.ownsRow wr.heap.size 5 1 v6 n (bytesV r) := by
        have := hown6
        rw [bytesV_length, HL0.out] at this; simpa using this
      obtain ⟨g1, cap1, rfl, hg1, hl1⟩ := hown7.form (by omega)
      have HCAP : Hid (n ≤ cap1) := own_cap hown7
      have hF : Hid (RowF w6.heap g1 n (LA.at_ m k)) := rowF_own hown7 fun j hj => HW.out j hj
      clear hown6 hchg6 hown7
      obtain ⟨ρ, κ, us, hu1, hu2, hu3, hu4, hu5⟩ := hR.out
      have HO : Hid (w6.ownsRow w.heap.size 33 1 u4 us.length us) := owns_chg hu1 hT.out fun b hb e => by have := (own_block hu1 b hb).2.1; omega
      have HU1 := Lib.hid hu1
      have HU2 := Lib.hid hu2
      have HU3 := Lib.hid hu3
      have HU4 := Lib.hid hu4
      have HU5 := Lib.hid hu5
      have hs2 := hT.out.size
      clear hu1 hu2 hu3 hu4 hu5
      go_wp2_with (at_builtin; refine wp_app1 elRows rfl _ _ rfl w.heap.size u4 us rfl (HO.out.alloc _) _ (.slice (some ⟨g1, 0, none⟩) n cap1) rfl ?d1 rfl ?d2 ?d3 ?_)
      case d1 => simp [go_sem]
      case d2 => have := HU2.out; omega
      case d3 => simp; omega
      intro v' w3 hown hchg
      have ca : Chg (fun x => wr.heap.size ≤ x) wr (w6.alloc (.cells #[.slice (some ⟨g1, 0, none⟩) n cap1] 33)) := hT.out.alloc _
      have hpush : Hid (∃ ρ κ, Grows w.heap.size w3 v' (k + 1) n (LA.at_ m) ρ κ) := ⟨_, _, Grows.push (f := LA.at_ m k) HU2.out HU3.out HU4.out HU5.out ca (fun b hb e => by omega) hg1 (Nat.le_trans hsz hg1) (hF.out.chg (T := fun _ => False) ((Chg.refl _ w6).alloc _) (fun x => x)) HCAP.out hown hchg
        (fun b hb => by
          obtain ⟨_, h5, h6⟩ := own_block HO.out b hb
          exact typH_chg (T := fun _ => False) ((Chg.refl _ w6).alloc _) h6 (fun x => x)) (fun _ _ => rfl)⟩
      have hk2 : Hid (Keeps w w3) := ((hK.out.chg.trans (ca.mono fun b hb e => by omega)).trans (hchg.mono fun b hb0 hb => (own_block HU1.out b hb).1)).keeps fun b hb hx => by omega
      clear hown hchg ca
      go_wp2
      exact ⟨⟨k + 1, by omega, by go_num, hpush, hk2⟩, by simp [intOf]; omega⟩
    · obtain rfl : k = m.length := by omega
      obtain ⟨ρ0, κ0, hG⟩ := hR.out
      obtain ⟨g, cap, rfl, hl⟩ := hG.lies (by omega)
      have HL := Lib.hid hl
      have HK2 := hK
      clear hG hl hR hK
      have i1 : (0 : Int) < (m.length : Int) := by omega
      obtain ⟨w2, rfl⟩ : ∃ w2 : World, w2 = wr := ⟨_, rfl⟩
      go_wp2_with fail
      go_loopw [6, 7] (fun d i wr => ∃ c : Nat, c ≤ n ∧ i = .int .i64 c ∧ d = .int .i64 ((LA.dn m c).2 : Int) ∧ Hid (∃ ρ κ, Lies w.heap.size wr.heap g cap m.length n (LA.at_ (LA.dn m c).1) ρ κ) ∧ Hid (Chg (fun b => w.heap.size ≤ b) w2 wr)) (fun _ i _ => n - (intOf i).toNat)
      case atStart => exact ⟨0, by omega, rfl, rfl, ⟨ρ0, κ0, HL.out⟩, Chg.refl _ _⟩
      case round =>
        obtain ⟨c, hc, rfl, rfl, hLr, hC⟩ := hrel
        have hsl : (LA.dn m c).1.length = m.length := (LA.dn_length m c).1
        have hd : (LA.dn m c).2 ≤ m.length := (LA.dn_length m c).2
        have hrc : LA.Rect (LA.dn m c).1 n := dn_rect HR.out c
        have hstep : LA.dn m (c + 1) = LA.step c (LA.dn m c) := rfl
        have HST := Lib.hid hstep
        have HDN : Hid (c = n → LA.dn m n = LA.dn m c) := fun e => by rw [e]
        clear hstep
        generalize LA.dn m c = s at *
        obtain ⟨ρ, κ, hl⟩ := hLr.out
        have HLR := Lib.hid hl
        have HRC := Lib.hid hrc
        have HSL := Lib.hid hsl
        have HKK : Hid (Keeps w wr) := (HK2.out.chg.trans (hC.out)).keeps fun b hb h => by omega
        obtain ⟨zb, zo, zq, z1, _⟩ := row_cells (HA.out.keeps HKK.out) HR.out h3 (i := 0) (by omega)
        have z1 : wr.cell? ⟨ba, oa, none⟩ = some (.slice (some ⟨zb, zo, none⟩) n zq) := z1
        clear hl hrc hLr hsl
        obtain ⟨d, hdd⟩ : ∃ d, d = s.2 := ⟨_, rfl⟩
        rw [← hdd] at hd ⊢
        have HDD := Lib.hid hdd
        clear hdd
        have hc0 : (0 : Int) ≤ (c : Int) := by omega
        by_cases hcn : c < n
        · have hc64 : (c : Int) < (n : Int) := by omega
          go_wp2_with fail
          clear z1
          go_loop [8] (fun a => ∃ A : Nat, d ≤ A ∧ A ≤ m.length ∧ a = .int .i64 A ∧ Hid (∀ i, d ≤ i → i < A → LA.at_ s.1 i c = 0)) (fun a => m.length - (intOf a).toNat)
          case atStart => exact ⟨d, Nat.le_refl _, hd, rfl, fun i _ _ => by omega⟩
          case round =>
            obtain ⟨A, hA1, hA2, rfl, hz⟩ := hrel
            have hA0 : (0 : Int) ≤ (A : Int) := by omega
            by_cases hAl : A < m.length
            · have hA64 : (A : Int) < (m.length : Int) := by omega
              obtain ⟨c1, f1⟩ := HLR.out.cell hAl
              obtain ⟨_, c2⟩ := (HLR.out.row hAl).2 c hcn
              rw [← cell_of] at c1 c2
              by_cases hv : LA.at_ s.1 A c = 0
              · have HZ : Hid (∀ i, d ≤ i → i < A + 1 → LA.at_ s.1 i c = 0) := fun i h1 h2 => by
                  by_cases e : i = A
                  · subst e; exact hv
                  · exact hz.out i h1 (by omega)
                rw [hv] at c2
                change wr.cell? _ = some (.int .u8 0) at c2
                clear hv f1
                go_wp2
                go_round
                case rel => exact ⟨A + 1, by omega, by omega, by go_num, HZ⟩
                case measure => simp [intOf]; omega
              · have e0 : (((LA.at_ s.1 A c).toNat : Int) == 0) = false := bz_no _ hv
                have HFO : Hid (LA.Found s c A) := ⟨by rw [← HDD.out]; exact hA1, by rw [HSL.out]; exact hAl, hv, fun i h1 h2 => hz.out i (by rw [HDD.out]; exact h1) h2⟩
                have hq0 : ((A : Int) == (m.length : Int)) = false := beq_eq_false_iff_ne.2 (by omega)
                have hle := HLR.out.le
                have hdL : d < m.length := by omega
                have HX0 := Lib.hid (HLR.out.places A)
                have HGL := HLR.out.lt
                clear hv f1
                go_wp2_with fail
                clear c1 c2
                obtain ⟨wq, rfl⟩ : ∃ wq : World, wq = wr := ⟨_, rfl⟩
                go_loopw [10] (fun i wx => ∃ I : Nat, d ≤ I ∧ I ≤ A ∧ i = .int .i64 I ∧ Hid (Places wx.heap g cap m.length n (mv A I) ρ κ) ∧ Hid (Chg (fun b => b = g) wq wx)) (fun i _ => (intOf i).toNat)
                case atStart => exact ⟨A, hA1, Nat.le_refl _, rfl, HX0, Chg.refl _ _⟩
                case round =>
                  obtain ⟨I, hI1, hI2, rfl, hP, hCg⟩ := hrel
                  by_cases hId : d < I
                  · obtain ⟨J, rfl⟩ : ∃ J, I = J + 1 := ⟨I - 1, by omega⟩
                    have g1 : decide ((d : Int) < ((J + 1 : Nat) : Int)) = true := decide_eq_true (by omega)
                    have g1' : decide (d < J + 1) = true := decide_eq_true (by omega)
                    have g1'' : (d : Int) < ((J + 1 : Nat) : Int) := by omega
                    have g1''' : (d : Int) < (J : Int) + 1 := by omega
                    obtain ⟨p1, _⟩ := hP.out.cell (q := J) (by omega)
                    obtain ⟨p2, f2⟩ := hP.out.cell (q := J + 1) (by omega)
                    rw [show mv A (J + 1) J = J from by unfold mv; rw [if_pos (by omega)]] at p1
                    have HPN : Hid (Places (wr.setCell ⟨g, J + 1, none⟩ (.slice (some ⟨ρ J, 0, none⟩) n (κ J))).heap g cap m.length n (mv A J) ρ κ) := hP.out.set (i := J + 1) (k := J) (τ := mv A J) hle (by omega) fun q hq => by
                      unfold mv
                      by_cases e : q = J + 1
                      · rw [if_neg (by omega), if_pos (by omega), if_pos e]; omega
                      · rw [if_neg e]
                        by_cases e2 : q ≤ J
                        · rw [if_pos e2, if_pos (by omega)]
                        · rw [if_neg e2, if_neg (show ¬ q ≤ J + 1 by omega)]
                    have j1 : (J : Int) < (m.length : Int) := by omega
                    have j2 : (0 : Int) ≤ (J : Int) := by omega
                    have j3 : (J : Int) + 1 < (m.length : Int) := by omega
                    have j4 : (0 : Int) ≤ (J : Int) + 1 := by omega
                    have j5 : ((J : Int) + 1).toNat = J + 1 := by omega
                    have j6 : (J : Int) + 1 - 1 = (J : Int) := by omega
                    go_wp2
                    exact ⟨⟨J, by omega, by omega, by go_num, HPN, hCg.out.setCell (p := ⟨g, J + 1, none⟩) (fun _ => rfl) _⟩, by simp [intOf]⟩
                  · obtain rfl : d = I := by omega
                    obtain ⟨p2, f2⟩ := hP.out.cell (q := d) hdL
                    have hd64 : (d : Int) < (m.length : Int) := by omega
                    have hd0 : (0 : Int) ≤ (d : Int) := by omega
                    have HCGS : Hid (Chg (fun b => b = g) wq (wr.setCell ⟨g, d, none⟩ (.slice (some ⟨ρ A, 0, none⟩) n (κ A)))) := hCg.out.setCell (p := ⟨g, d, none⟩) (fun _ => rfl) _
                    have HROT : Hid (Lies w.heap.size (wr.setCell ⟨g, d, none⟩ (.slice (some ⟨ρ A, 0, none⟩) n (κ A))).heap g cap m.length n (fun i => LA.at_ s.1 (LA.ri d A i)) (fun i => ρ (LA.ri d A i)) (fun i => κ (LA.ri d A i))) := by
                      obtain ⟨cur2, q1, q2, q3⟩ := hP.out.set (i := d) (k := A) (τ := LA.ri d A) hle hdL (fun q hq => by
                        unfold LA.ri mv
                        by_cases e : q = d
                        · rw [if_neg (by omega), if_pos e, if_pos e]
                        · rw [if_neg e, if_neg e]
                          by_cases e2 : q < d
                          · rw [if_pos e2, if_pos (by omega)]
                          · rw [if_neg e2, if_neg (show ¬ q ≤ d by omega)])
                      exact HLR.out.placed (LA.ri d A) (fun i hi => LA.ri_lt hA1 hAl hi) (fun i k _ _ e => ri_inj hA1 e) HCGS.out cur2 q1 q2 q3
                    have HCH5 : Hid (Chg (fun b => w.heap.size ≤ b) w2 (wr.setCell ⟨g, d, none⟩ (.slice (some ⟨ρ A, 0, none⟩) n (κ A)))) := hC.out.trans (HCGS.out.mono fun b _ h => by rw [h]; exact HLR.out.1)
                    obtain ⟨ρ', hρ'⟩ : ∃ ρ' : Nat → Nat, ρ' = fun i => ρ (LA.ri d A i) := ⟨_, rfl⟩
                    obtain ⟨κ', hκ'⟩ : ∃ κ' : Nat → Nat, κ' = fun i => κ (LA.ri d A i) := ⟨_, rfl⟩
                    have hrd : LA.ri d A d = A := by unfold LA.ri; rw [if_neg (by omega), if_pos rfl]
                    have hr1 : Hid (ρ' d = ρ A) := by show _ = _; rw [hρ']; show ρ (LA.ri d A d) = _; rw [hrd]
                    have HFD : Hid ((fun i => LA.at_ s.1 (LA.ri d A i)) d = LA.at_ s.1 A) := by show LA.at_ s.1 (LA.ri d A d) = _; rw [hrd]
                    have HCS : Hid (∀ i j, i < m.length → clearF d c m.length (fun j => LA.mul (LA.at_ s.1 A j) (LA.inv (LA.at_ s.1 A c))) (fun i => LA.at_ s.1 (LA.ri d A i)) i j = LA.at_ (LA.dn m (c + 1)).1 i j) := fun i j hi => by
                      rw [HST.out]; exact clearF_step HRC.out HFO.out HSL.out (by rw [← HDD.out]; omega) HDD.out hi j
                    have HS2 : Hid ((LA.dn m (c + 1)).2 = d + 1) := by show _ = _; rw [HST.out, step_done1 HFO.out (by rw [HSL.out, ← HDD.out]; omega), HDD.out]
                    rw [← hρ', ← hκ'] at HROT
                    clear hρ' hκ' hrd
                    generalize hPf : LA.at_ s.1 A = f at *
                    generalize (fun i => LA.at_ s.1 (LA.ri d A i)) = F at *
                    generalize ρ A = r at *
                    generalize κ A = κr at *
                    obtain ⟨y, hy⟩ : ∃ y, LA.inv (f c) = y := ⟨_, rfl⟩
                    rw [hy] at HCS
                    have HY := Lib.hid hy
                    clear hy hPf
                    have HR5 : Hid (RowF (wr.setCell ⟨g, d, none⟩ (.slice (some ⟨r, 0, none⟩) n κr)).heap r n f) := by
                      have := HROT.out.row hdL
                      rw [hr1.out, HFD.out] at this; exact this
                    have hrg : r ≠ g := by have := HROT.out.ne hdL; rw [hr1.out] at this; exact this
                    have hgr : g ≠ r := fun e => hrg e.symm
                    obtain ⟨_, c3⟩ := HR5.out.2 c hcn
                    rw [← cell_of] at c3
                    have c3' : wr.cell? ⟨r, c, none⟩ = some (.int .u8 ((f c).toNat : Int)) := by
                      have := c3
                      rw [cell_of, cellH_set _ _ _ _ _ _ _ (by rw [← cell_of]; exact p2), if_neg (fun h => hrg h.1.symm), ← cell_of] at this
                      exact this
                    go_wp2_with fail
                    refine Calls.mono (grefinv _ y _ HY.out) ?_
                    rintro e w' ⟨rfl, rfl⟩
                    clear c3 c3' p2 f2
                    generalize wr.setCell ⟨g, d, none⟩ (.slice (some ⟨r, 0, none⟩) n κr) = w6 at *
                    go_wp2_with fail
                    go_loopw [13] (fun i wx => ∃ k : Nat, k ≤ n ∧ i = .int .i64 k ∧ Hid (RowF wx.heap r n (fun j => if j < k then LA.mul (f j) y else f j)) ∧ Hid (Chg (fun b => b = r) w6 wx)) (fun i _ => n - (intOf i).toNat)
                    case atStart => exact ⟨0, by omega, rfl, HR5.out.congr fun j _ => by (try dsimp only); rw [if_neg (by omega)], Chg.refl _ _⟩
                    case round =>
                      obtain ⟨k, hk, rfl, hRk, hCk⟩ := hrel
                      by_cases hkn : k < n
                      · have k64 : (k : Int) < (n : Int) := by omega
                        have k0 : (0 : Int) ≤ (k : Int) := by omega
                        obtain ⟨f1, t1⟩ := hRk.out.2 k hkn
                        rw [← froz_of] at f1
                        rw [← cell_of] at t1
                        dsimp only at t1
                        rw [if_neg (by omega)] at t1
                        have HN : Hid (∀ z : UInt8, LA.mul (f k) y = z → RowF (wr.setCell ⟨r, k, none⟩ (.int .u8 (z.toNat : Int))).heap r n (fun j => if j < k + 1 then LA.mul (f j) y else f j)) := fun z hz =>
                          (hRk.out.set hkn z).congr fun j hj => by
                            (try dsimp only)
                            by_cases e : j = k
                            · subst e; rw [if_pos rfl, if_pos (by omega), hz]
                            · rw [if_neg e]
                              by_cases e2 : j < k
                              · rw [if_pos e2, if_pos (by omega)]
                              · rw [if_neg e2, if_neg (by omega)]
                        have HCN : Hid (∀ z : UInt8, Chg (fun b => b = r) w6 (wr.setCell ⟨r, k, none⟩ (.int .u8 (z.toNat : Int)))) := fun z => hCk.out.setCell (p := ⟨r, k, none⟩) (fun _ => rfl) _
                        generalize f k = x at *
                        go_wp2_with fail
                        refine Calls.mono (grefmul x y _) ?_
                        rintro e w' ⟨rfl, rfl⟩
                        go_wp2
                        exact ⟨⟨k + 1, by omega, by go_num, HN.out _ rfl, HCN.out _⟩, by simp [intOf]; omega⟩
                      · obtain rfl : k = n := by omega
                        have HL7 : Hid (Lies w.heap.size wr.heap g cap m.length k (clearF d c 0 (fun j => LA.mul (f j) y) F) ρ' κ') := by
                          have := HROT.out.over hdL (w' := wr) (by rw [hr1.out]; exact hCk.out) (f := fun j => LA.mul (f j) y) (by rw [hr1.out]; exact hRk.out.congr fun j hj => by (try dsimp only); rw [if_pos hj])
                          exact this.congr fun i hi j hj => by
                            unfold clearF
                            by_cases e : i = d
                            · rw [if_pos e, if_pos e]
                            · rw [if_neg e, if_neg e, if_neg (by omega)]
                        have HCH7 : Hid (Chg (fun b => w.heap.size ≤ b) w2 wr) := HCH5.out.trans (hCk.out.mono fun b _ h => by
                          have h1 := (HROT.out.2.2.1 d hdL).1
                          rw [hr1.out] at h1
                          rw [h]; exact h1)
                        go_wp2_with fail
                        go_loopw [14] (fun i wx => ∃ k' : Nat, k' ≤ m.length ∧ i = .int .i64 k' ∧ Hid (Lies w.heap.size wx.heap g cap m.length k (clearF d c k' (fun j => LA.mul (f j) y) F) ρ' κ') ∧ Hid (Chg (fun b => w.heap.size ≤ b) w2 wx)) (fun i _ => m.length - (intOf i).toNat)
                        case atStart => exact ⟨0, by omega, rfl, HL7, HCH7⟩
                        case round =>
                          obtain ⟨q, hq, rfl, hLk, hCq⟩ := hrel
                          by_cases hql : q < m.length
                          · have q64 : (q : Int) < (m.length : Int) := by omega
                            have q0 : (0 : Int) ≤ (q : Int) := by omega
                            obtain ⟨e1, _⟩ := hLk.out.cell hql
                            obtain ⟨_, e2⟩ := (hLk.out.row hql).2 c hcn
                            rw [← cell_of] at e1 e2
                            by_cases hqd : q = d
                            · have hqb : ((q : Int) != (d : Int)) = false := by rw [bne_eq_false_iff_eq, hqd]
                              have HLn : Hid (Lies w.heap.size wr.heap g cap m.length k (clearF d c (q + 1) (fun j => LA.mul (f j) y) F) ρ' κ') := by
                                have := hLk.out
                                rw [hqd] at this ⊢
                                rw [clearF_same]; exact this
                              obtain ⟨wq2, rfl⟩ : ∃ wq2 : World, wq2 = wr := ⟨_, rfl⟩
                              generalize clearF d c q (fun j => LA.mul (f j) y) F q c = by0 at *
                              clear hqd
                              go_wp2_with fail
                              clear e1 e2
                              go_loopw [16] (fun i wx => i = .int .i64 ((0 : Nat) : Int) ∧ ∃ n0, wx = wq2.drewN n0) (fun i _ => 0)
                              case atStart => exact ⟨rfl, 0, rfl⟩
                              case round =>
                                obtain ⟨rfl, n0, rfl⟩ := hrel
                                have HLn : Hid (Lies w.heap.size (wq2.drewN n0).heap g cap m.length k (clearF d c (q + 1) (fun j => LA.mul (f j) y) F) ρ' κ') := HLn
                                have hCq : Hid (Chg (fun b => w.heap.size ≤ b) w2 (wq2.drewN n0)) := hCq
                                go_wp2
                                exact ⟨⟨q + 1, by omega, by go_num, HLn, hCq⟩, by simp [intOf]; omega⟩
                            · have hqb : ((q : Int) != (d : Int)) = true := by rw [bne_iff_ne]; omega
                              have hRq : Hid (RowF wr.heap (ρ' q) k (F q)) := (hLk.out.row hql).congr fun j _ => by unfold clearF; rw [if_neg hqd, if_neg (by omega)]
                              have hRd : Hid (RowF wr.heap r k (fun j => LA.mul (f j) y)) := by
                                have := hLk.out.row hdL
                                rw [hr1.out] at this
                                exact this.congr fun j _ => by unfold clearF; rw [if_pos rfl]
                              have e3 : wr.cell? ⟨ρ' q, c, none⟩ = some (.int .u8 ((F q c).toNat : Int)) := by
                                rw [e2]; unfold clearF; rw [if_neg hqd, if_neg (by omega)]
                              clear e2
                              have hne : Hid (r ≠ ρ' q) := fun e => hqd (hLk.out.inj hql hdL (by rw [hr1.out]; exact e.symm))
                              have hgn : Hid (g ≠ ρ' q) := fun e => hLk.out.ne hql e.symm
                              have hbk : Hid (w.heap.size ≤ ρ' q) := (hLk.out.2.2.1 q hql).1
                              have HOV : Hid (∀ wx, Chg (fun b => b = ρ' q) wr wx → RowF wx.heap (ρ' q) k (fun j => F q j ^^^ LA.mul (LA.mul (f j) y) (F q c)) → Lies w.heap.size wx.heap g cap m.length k (clearF d c (q + 1) (fun j => LA.mul (f j) y) F) ρ' κ') := fun wx hcx hfx => by
                                rw [clearF_next hqd]; exact hLk.out.over hql hcx hfx
                              obtain ⟨wq2, rfl⟩ : ∃ wq2 : World, wq2 = wr := ⟨_, rfl⟩
                              have E1 := Lib.hid e1
                              generalize ρ' q = rk at *
                              generalize κ' q = κk at *
                              generalize F q = fk at *
                              generalize fk c = x at *
                              clear hqd
                              go_wp2_with fail
                              clear e1 e3
                              go_loopw [16] (fun i wx => ∃ t : Nat, t ≤ k ∧ i = .int .i64 t ∧ Hid (RowF wx.heap rk k (fun j => if j < t then fk j ^^^ LA.mul (LA.mul (f j) y) x else fk j)) ∧ Hid (Chg (fun b => b = rk) wq2 wx)) (fun i _ => k - (intOf i).toNat)
                              case atStart => exact ⟨0, by omega, rfl, hRq.out.congr fun j _ => by (try dsimp only); rw [if_neg (by omega)], Chg.refl _ _⟩
                              case round =>
                                obtain ⟨t, ht, rfl, hRt, hCt⟩ := hrel
                                by_cases htk : t < k
                                · have t64 : (t : Int) < (k : Int) := by omega
                                  have t0 : (0 : Int) ≤ (t : Int) := by omega
                                  obtain ⟨f1, t1⟩ := hRt.out.2 t htk
                                  rw [← froz_of] at f1
                                  rw [← cell_of] at t1
                                  dsimp only at t1
                                  rw [if_neg (by omega)] at t1
                                  obtain ⟨_, t2⟩ := (hRd.out.chg hCt.out hne.out).2 t htk
                                  rw [← cell_of] at t2
                                  dsimp only at t2
                                  have t3 : wr.cell? ⟨g, q, none⟩ = some (.slice (some ⟨rk, 0, none⟩) k κk) := by
                                    rw [cell_of]; exact cellH_chg hCt.out (by rw [← cell_of]; exact E1.out) hgn.out
                                  have HN : Hid (∀ z : UInt8, fk t ^^^ LA.mul x (LA.mul (f t) y) = z → RowF (wr.setCell ⟨rk, t, none⟩ (.int .u8 (z.toNat : Int))).heap rk k (fun j => if j < t + 1 then fk j ^^^ LA.mul (LA.mul (f j) y) x else fk j)) := fun z hz =>
                                    (hRt.out.set htk z).congr fun j hj => by
                                      (try dsimp only)
                                      by_cases e : j = t
                                      · subst e; rw [if_pos rfl, if_pos (by omega), ← hz, LA.mul_comm x]
                                      · rw [if_neg e]
                                        by_cases e2 : j < t
                                        · rw [if_pos e2, if_pos (by omega)]
                                        · rw [if_neg e2, if_neg (by omega)]
                                  have HCN : Hid (∀ z : UInt8, Chg (fun b => b = rk) wq2 (wr.setCell ⟨rk, t, none⟩ (.int .u8 (z.toNat : Int)))) := fun z => hCt.out.setCell (p := ⟨rk, t, none⟩) (fun _ => rfl) _
                                  have hx := gxor (fk t) (LA.mul x (LA.mul (f t) y))
                                  generalize LA.mul (f t) y = z at *
                                  generalize fk t = v0 at *
                                  go_wp2_with fail
                                  refine wp_region_tail (List.dropLast _) (List.getLast _ (List.cons_ne_nil _ _)) (List.dropLast_concat_getLast _).symm (by kernel_rfl) (by kernel_rfl) (by kernel_rfl) (by kernel_rfl) rfl (by kernel_rfl) ?_; simp only [List.dropLast_cons_cons, List.dropLast_singleton, List.getLast_cons_cons, List.getLast_singleton]; (repeat (go_big_quiet_step ((go_at_call 59; refine Calls.mono (grefmul _ _ _) ?_; rintro e w' ⟨rfl, rfl⟩; exact ⟨rfl, _, rfl⟩)))); refine wpQuiet_nil ?_; intro _ hw1; obtain ⟨nq, hw2⟩ := hw1; subst hw2
                                  go_wp2
                                  exact ⟨⟨t + 1, by omega, by go_num, (by rw [← LA.xor_toNat]; exact HN.out _ rfl), (by rw [← LA.xor_toNat]; exact HCN.out _)⟩, by simp [intOf]; omega⟩
                                · obtain rfl : t = k := by omega
                                  have HL8 : Hid (Lies w.heap.size wr.heap g cap m.length t (clearF d c (q + 1) (fun j => LA.mul (f j) y) F) ρ' κ') := HOV.out wr hCt.out (hRt.out.congr fun j hj => by (try dsimp only); rw [if_pos hj])
                                  have HC8 : Hid (Chg (fun b => w.heap.size ≤ b) w2 wr) := hCq.out.trans (hCt.out.mono fun b _ h => by rw [h]; exact hbk.out)
                                  go_wp2
                                  exact ⟨⟨q + 1, by omega, by go_num, HL8, HC8⟩, by simp [intOf]; omega⟩
                          · obtain rfl : q = m.length := by omega
                            have HL9 : Hid (Lies w.heap.size wr.heap g cap m.length k (LA.at_ (LA.dn m (c + 1)).1) ρ' κ') := hLk.out.congr fun i hi j _ => HCS.out i j hi
                            go_wp2
                            exact ⟨⟨c + 1, by omega, by go_num, by rw [HS2.out]; go_num, ⟨ρ', κ', HL9.out⟩, hCq⟩, by simp [intOf]; omega⟩
            · obtain rfl : A = m.length := by omega
              have hq0 : ((m.length : Int) == (m.length : Int)) = true := by simp
              have HSN : Hid (LA.step c s = s) := step_none (by rw [HSL.out, ← HDD.out]; exact hA1) fun i h1 h2 => hz.out i (by rw [HDD.out]; exact h1) (by rw [HSL.out] at h2; exact h2)
              go_wp2
              exact ⟨⟨c + 1, by omega, by go_num, by rw [HST.out, HSN.out, HDD.out], ⟨ρ, κ, by rw [HST.out, HSN.out]; exact HLR.out⟩, hC⟩, by simp [intOf]; omega⟩
        · obtain rfl : c = n := by omega
          have HE := HDN.out rfl
          have HEE := Lib.hid HE
          clear HE
          go_wp2
          go_ret2
          exact ⟨g, cap, ρ, κ, by rw [HEE.out, HDD.out]; rfl, by rw [HEE.out]; exact HLR.out, HKK.out⟩
end Go.Proofs.Ytojdodbedemkoaa
