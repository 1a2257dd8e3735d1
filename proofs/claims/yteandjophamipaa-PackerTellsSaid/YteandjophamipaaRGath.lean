/- The walk of the reference's Gather. -/
import Derived.Test.YteandjophamipaaRGOne
import Derived.Test.YteandjophamipaaGath28
namespace Go.Proofs.Yteandjophamipaa
open Go.RowKit
attribute [local go_sem ↓] Go.wp_at_zero Go.wp_at_succ
/-- The state while the reference gathers: the packs, the open chunks. -/
structure GaR (w wr : World) (H : Nat) (out : List (List ByteArray)) (opn : List ByteArray) (vu vo : Value) : Prop where
  ou : OwnRec w.heap.size 46 4 (IsPack (fun b => w.heap.size ≤ b ∧ b < H) wr.heap) wr vu out
  oo : OwnSeq H 9 IsText wr vo opn
  kp : Keeps w wr
  nh : w.heap.size ≤ H
  hw : H ≤ wr.heap.size
section
variable {w wr wx w6 : World} {H : Nat} {out : List (List ByteArray)} {opn : List ByteArray} {vu vo : Value}
theorem GaR.new (w : World) : GaR w w w.heap.size [] [] (.slice none 0 0) (.slice none 0 0) := ⟨OwnRec.nil _ _ _ _ _, OwnSeq.nil _ _ _ _, keeps_refl w, Nat.le_refl _, Nat.le_refl _⟩
theorem GaR.keeps (h : GaR w wr H out opn vu vo) (k : Keeps wr wx) : GaR w wx H out opn vu vo :=
  ⟨h.ou.keeps k fun _ _ _ x => x.keeps k, h.oo.chg (T := fun _ => False) (Kept.any k) (fun _ _ x => x) fun _ _ _ x => x, h.kp.trans k, h.nh, Nat.le_trans h.hw k.size⟩
/-- A chunk more. -/
theorem GaR.push {us : List Value} {v' : Value} {c : ByteArray} (h : GaR w wr H out opn vu vo)
    (h0 : wr.ownsRow H 9 1 vo us.length us) (h1 : us.length = opn.length) (h2 : ∀ i (h : i < us.length) (h' : i < opn.length), IsText us[i] opn[i])
    (hx : Keeps wr wx) (h3 : w6.ownsRow H 9 1 v' (us.length + 1) (us ++ [.string c])) (hc0 : Chg (fun b => vo.ownBlock = some b) wx w6) : GaR w w6 H out (opn ++ [c]) vu v' := by
  have hc : Chg (fun b => vo.ownBlock = some b) wr w6 := (Kept.any hx).trans hc0
  refine ⟨h.ou.chg hc (fun q _ _ ht => own_type h0 ht (by decide)) fun a b _ x => ?_, OwnSeq.push (R := IsText) (R' := IsText) h1 h2 h3 (fun _ _ _ x => x) rfl, h.kp.then (chg_kept (B := w.heap.size) hc (fun q _ e => ?_) h.kp.size) (Nat.le_refl _), h.nh, Nat.le_trans h.hw hc.size⟩
  · refine IsPack.chg x hc fun q _ hq ht e => ?_
    have := (own_block h0 q e).1; omega
  · have := (own_block h0 q e).1; have := h.nh; omega
/-- A pack more; the open chunks are struck. -/
theorem GaR.shut {us : List (List Value)} {v' : Value} {u : List Value} (h : GaR w wr H out opn vu vo)
    (h0 : wr.ownsRow w.heap.size 46 4 vu us.length us.flatten) (h1 : us.length = out.length) (h2 : ∀ i (h : i < us.length) (h' : i < out.length), us[i].length = 4 ∧ IsPack (fun b => w.heap.size ≤ b ∧ b < H) wr.heap us[i] out[i])
    (hu : u.length = 4) (hp : IsPack (wr.heap.size ≤ ·) wx.heap u opn)
    (hx : Keeps wr wx) (h3 : w6.ownsRow w.heap.size 46 4 v' (us.length + 1) (us.flatten ++ u)) (hc0 : Chg (fun b => vu.ownBlock = some b) wx w6) :
    GaR w w6 w6.heap.size (out ++ [opn]) [] v' (.slice none 0 0) := by
  have hc : Chg (fun b => vu.ownBlock = some b) wr w6 := (Kept.any hx).trans hc0
  have hbu := own_blockK h0
  refine ⟨OwnRec.push (R := IsPack (fun b => w.heap.size ≤ b ∧ b < H) wr.heap) h1 h2 h3 (fun a b _ x => ?_) hu ?_, OwnSeq.nil _ _ _ _, h.kp.then (chg_kept (B := w.heap.size) hc (fun q _ e => (hbu q e).1) h.kp.size) (Nat.le_refl _), Nat.le_trans h.nh (Nat.le_trans h.hw hc.size), Nat.le_refl _⟩
  · refine (IsPack.chg x hc fun q _ hq ht e => ?_).mono fun q hq => ⟨hq.1, by have := h.hw; have := hc.size; omega⟩
    rcases ht with ht | ht
    · exact own_type h0 ht (by decide) e
    · exact own_type h0 ht (by decide) e
  · refine (IsPack.chg hp.bound hc0 fun q _ hq _ e => ?_).mono fun q hq => ⟨Nat.le_trans h.nh (Nat.le_trans h.hw hq.1), Nat.lt_of_lt_of_le hq.2 hc0.size⟩
    have := (hbu q e).2.1; omega
end
theorem badC_no {c : ByteArray} (h : badC c = false) : 1 ≤ c.size ∧ c.size ≤ 16384 := by
  unfold badC at h
  simp only [Bool.or_eq_false_iff, decide_eq_false_iff_not] at h
  omega
theorem badG_all {l : List ByteArray} (h : ∀ i, i < l.length → badC (atP l i) = false) : badG l = false := by
  rw [badG_any, List.any_eq_false]
  intro c hc
  obtain ⟨i, hi, rfl⟩ := List.getElem_of_mem hc
  have := h i hi
  rw [atP_get hi] at this
  simp [this]
theorem badG_one {l : List ByteArray} {i : Nat} (hi : i < l.length) (h : badC (atP l i) = true) : badG l = true := by
  rw [badG_any, List.any_eq_true]
  exact ⟨l[i], List.getElem_mem _, by rw [← atP_get hi]; exact h⟩
theorem ne_sr : (9 : TypeId) ≠ 46 := by decide
theorem empty_of {s : ByteArray} (h : s.size = 0) : s = ⟨#[]⟩ := by
  cases s with | mk d => have : d.size = 0 := h; simp at this; rw [this]
theorem text_ne {s : ByteArray} (h : ¬ s.size = 0) : (s.toList == []) = false ∧ s.toList.isEmpty = false := by
  have e1 : (s.toList == []) = false := by
    rw [beq_eq_false_iff_ne]
    intro e
    have := congrArg List.length e
    rw [toList_eq, data_size] at this
    exact h this
  exact ⟨e1, by rw [List.isEmpty_eq_false_iff]; intro e; rw [e] at e1; simp at e1⟩
theorem hasT_take {l : List ByteArray} {t : Nat} (h : t < l.length) (c : ByteArray) : hasT (l.take (t + 1)) c = (hasT (l.take t) c || decide (atP l t = c)) := by
  rw [take_snoc h]; unfold hasT; rw [List.any_append]; simp
theorem ne_opn {opn : List ByteArray} {n : Nat} (h : n = opn.length) (h0 : 0 < n) : opn ≠ [] := fun e => by subst e; simp at h; omega
set_option maxRecDepth 100000 in
set_option maxHeartbeats 4000000 in
theorem rgather_any (v : Value) (l : List ByteArray) (w : World) (h : TextsAt w.heap v l) (hl : l.length ≤ 100000) (ht : total l ≤ 1000000) : Calls Try.prog 29 #[v] w (GivePacks 46 w l) := by
  obtain ⟨pv, qv, rfl⟩ := seq_shape h
  have H := Lib.hid h
  have HT := Lib.hid ht
  clear h ht
  go_enter Try.func29, Try.ntmps29
  go_wp2_with fail
  go_loop [4] (fun i => ∃ k : Nat, k ≤ l.length ∧ i = .int .i64 k ∧ Hid (∀ j, j < k → badC (atP l j) = false)) (fun i => l.length - (intOf i).toNat)
  case atStart => exact ⟨0, by omega, rfl, fun j hj => absurd hj (by omega)⟩
  case round =>
    obtain ⟨k, hk, rfl, hB⟩ := hrel
    by_cases hlt : k < l.length
    · have hlt64 : (k : Int) < (l.length : Int) := by omega
      have hk0 : (0 : Int) ≤ (k : Int) := by omega
      obtain ⟨b, off, cc, u, e5, d1, r1⟩ := seq_cell H.out hlt
      injection e5 with e6 e7 e8
      subst e6 e8
      unfold IsText at r1
      subst r1
      rw [← atP_get hlt] at d1
      generalize hs : atP l k = s at *
      have HS := Lib.hid hs
      clear e7 hs
      by_cases h0 : s.size = 0
      · obtain rfl := empty_of h0
        have HBG : Hid (badG l = true) := badG_one hlt (by rw [HS.out]; rfl)
        clear h0
        go_wp2
        go_ret2
        exact ⟨_, by rw [HBG.out]; exact ⟨rfl, rfl⟩, keeps_refl _⟩
      · obtain ⟨x1, x2⟩ := text_ne h0
        by_cases h1 : 16384 < s.size
        · have j1 : decide ((16384 : Int) < (s.size : Int)) = true := decide_eq_true (by omega)
          have j2 : decide (16384 < s.size) = true := decide_eq_true (by omega)
          have HBG : Hid (badG l = true) := badG_one hlt (by rw [HS.out]; unfold badC; rw [j2]; simp)
          go_wp2
          go_ret2
          exact ⟨_, by rw [HBG.out]; exact ⟨rfl, rfl⟩, keeps_refl _⟩
        · have j1 : decide ((16384 : Int) < (s.size : Int)) = false := decide_eq_false (by omega)
          have j2 : decide (16384 < s.size) = false := decide_eq_false (by omega)
          have HB1 : Hid (∀ j, j < k + 1 → badC (atP l j) = false) := fun j hj => by
            by_cases e : j = k
            · subst e; rw [HS.out]; unfold badC; rw [j2, decide_eq_false h0]; rfl
            · exact hB.out j (by omega)
          go_wp2
          exact ⟨⟨k + 1, by omega, by go_num, HB1⟩, by simp [intOf]; omega⟩
    · obtain rfl : k = l.length := by omega
      have HBD : Hid (badG l = false) := badG_all hB.out
      clear hB
      go_wp2_with fail
      go_loopw [5, 6, 7, 8] (fun vu vo sz i wr => ∃ (k H : Nat), k ≤ l.length ∧ i = .int .i64 k ∧ sz = .int .i64 (total (gst l k).2 : Int) ∧ Hid (GaR w wr H (gst l k).1 (gst l k).2 vu vo)) (fun _ _ _ i _ => l.length - (intOf i).toNat)
      case atStart => exact ⟨0, _, by omega, rfl, rfl, GaR.new w⟩
      case round =>
        obtain ⟨k, H9, hk, rfl, rfl, hG⟩ := hrel
        have HHW := hG.out.hw
        obtain ⟨us, hu1, hu2, hu3⟩ := hG.out.ou
        obtain ⟨uo, ho1, ho2, ho3⟩ := hG.out.oo
        obtain ⟨pu, qu, rfl⟩ := own_sliceK hu1
        obtain ⟨po, qo, rfl⟩ := own_slice ho1
        have hul : us.length ≤ 1000000 := by have := (gst_le HBD.out hk).1; omega
        have hol : uo.length ≤ 1000000 := by have := (gst_le HBD.out hk).2; omega
        have HL2 := Lib.hid hu2
        have H3 := Lib.hid hu3
        have HM2 := Lib.hid ho2
        have HM3 := Lib.hid ho3
        have HU0 := Lib.hid hu1
        have HO0 := Lib.hid ho1
        clear hu1 hu2 hu3 ho1 ho2 ho3
        by_cases hlt : k < l.length
        · have hlt64 : (k : Int) < (l.length : Int) := by omega
          have hk0 : (0 : Int) ≤ (k : Int) := by omega
          obtain ⟨b, off, cc, u, e5, d0, r1⟩ := seq_cell H.out hlt
          injection e5 with e6 e7 e8
          subst e6 e8
          unfold IsText at r1
          subst r1
          rw [← atP_get hlt] at d0
          have d1 : wr.cell? ⟨b, off + k, none⟩ = some (.string (atP l k)) := keeps_cell hG.out.kp d0
          have HD0 := Lib.hid d0
          have HSZ := Lib.hid (badG_at HBD.out hlt)
          have HGS := Lib.hid (gst_succ l k)
          have HGO := Lib.hid (fun h => gst_open HBD.out hk h)
          have HLE := Lib.hid (gst_le HBD.out hk)
          have htt : total (gst l k).2 ≤ 1000000 := Nat.le_trans (gst_total (l := l) (k := k) hk) HT.out
          have hsz := HSZ.out.2
          have HNP : Hid (∀ t, t < k → hasT (l.take (t + 1)) (atP l k) = (hasT (l.take t) (atP l k) || decide (atP l t = atP l k))) := fun t ht => hasT_take (by omega) _
          clear e7 d0
          generalize atP l k = c at *
          go_wp2_with fail
          go_loopw [9, 10] (fun m j wq => ∃ t : Nat, t ≤ k ∧ j = .int .i64 t ∧ m = .bool (hasT (l.take t) c) ∧ ∃ n, wq = wr.drewN n) (fun _ j _ => k - (intOf j).toNat)
          case atStart => exact ⟨0, by omega, rfl, rfl, 0, rfl⟩
          case round =>
            obtain ⟨t, ht, rfl, rfl, n1, rfl⟩ := hrel
            have d1 : (wr.drewN n1).cell? ⟨b, off + k, none⟩ = some (.string c) := d1
            by_cases htk : t < k
            · have ht64 : (t : Int) < (k : Int) := by omega
              have htl64 : (t : Int) < (l.length : Int) := by omega
              have ht0 : (0 : Int) ≤ (t : Int) := by omega
              obtain ⟨u', d2, r2⟩ := seq_at (SeqAt.keeps H.out hG.out.kp) (show t < l.length by omega)
              unfold IsText at r2
              subst r2
              rw [← atP_get (show t < l.length by omega)] at d2
              have d2 : (wr.drewN n1).cell? ⟨b, off + t, none⟩ = some (.string (atP l t)) := d2
              have HTK := Lib.hid (HNP.out t htk)
              have hse := txt_eq (atP l t) c
              generalize atP l t = x at *
              generalize hasT (l.take t) c = m at *
              generalize decide (x = c) = dx at *
              cases m with
              | true =>
                clear hse
                go_wp2_with fail
                go_quiet (fail)
                go_wp2
                exact ⟨⟨t + 1, by omega, by go_num, by rw [HTK.out]; rfl, _, (by first | rfl | exact drew_two _ _ _)⟩, by simp [intOf]; omega⟩
              | false =>
                go_wp2_with fail
                go_quiet (fail)
                go_wp2
                exact ⟨⟨t + 1, by omega, by go_num, by rw [HTK.out]; rfl, _, (by first | rfl | exact drew_two _ _ _)⟩, by simp [intOf]; omega⟩
            · have htk' : k = t := by omega
              subst htk'
              have HG1 : Hid (GaR w (wr.drewN n1) H9 (gst l k).1 (gst l k).2 (.slice pu us.length qu) (.slice po uo.length qo)) := hG.out.keeps (show Keeps wr (wr.drewN n1) from keeps_refl wr)
              have HU : Hid ((wr.drewN n1).ownsRow w.heap.size 46 4 (.slice pu us.length qu) us.length us.flatten) := HU0.out
              have HO : Hid ((wr.drewN n1).ownsRow H9 9 1 (.slice po uo.length qo) uo.length uo) := HO0.out
              have HP3 : Hid (∀ i (h : i < us.length) (h' : i < (gst l k).1.length), us[i].length = 4 ∧ IsPack (fun b => w.heap.size ≤ b ∧ b < H9) (wr.drewN n1).heap us[i] (gst l k).1[i]) := H3.out
              clear hG HU0 HO0 H3 HHW HNP
              generalize wr.drewN n1 = wz at *
              cases hh : hasT (l.take k) c with
              | true =>
                have HE : Hid (gst l (k + 1) = gst l k) := by show _ = _; rw [HGS.out, hh]; rfl
                clear hh HGS
                rw [← HE.out] at HG1 ⊢
                go_wp2_with fail
                exact ⟨⟨k + 1, _, by omega, by go_num, rfl, HG1⟩, by simp [intOf]; omega⟩
              | false =>
                have HE : Hid (gst l (k + 1) = stepG (gst l k) c) := by show _ = _; rw [HGS.out, hh]; rfl
                clear hh HGS
                generalize hst : gst l k = st at *
                clear hst
                obtain ⟨out, opn⟩ := st
                simp only [] at HG1 HGO HLE htt HL2 HM2 HM3 HP3
                have H3 := HP3
                have hlo := HLE.out.1
                have hop := HLE.out.2
                have HON : Hid (uo.length = 0 ↔ opn = []) := by
                  show _ ↔ _
                  rw [HM2.out]; exact List.length_eq_zero_iff
                go_upto_region 18 with (fail)
                go_cut [66] (fun s wx => s = .bool (!opn.isEmpty && decide (4096 < total opn + c.size)) ∧ wx = wz)
                case first =>
                  by_cases he : uo.length = 0
                  · have j1 : decide (0 < uo.length) = false := decide_eq_false (by omega)
                    have j2 : decide ((0 : Int) < (uo.length : Int)) = false := decide_eq_false (by omega)
                    have HX : Hid ((!opn.isEmpty && decide (4096 < total opn + c.size)) = false) := by show _ = _; rw [HON.out.1 he]; rfl
                    clear he
                    go_wp2
                    go_meet
                    exact ⟨by rw [HX.out], rfl⟩
                  · have j1 : decide (0 < uo.length) = true := decide_eq_true (by omega)
                    have j2 : decide ((0 : Int) < (uo.length : Int)) = true := decide_eq_true (by omega)
                    have HX : Hid ((!opn.isEmpty && decide (4096 < total opn + c.size)) = decide (4096 < total opn + c.size)) := by
                      show _ = _
                      have : opn.isEmpty = false := by rw [List.isEmpty_eq_false_iff]; exact fun e => he (HON.out.2 e)
                      rw [this]; rfl
                    clear he
                    by_cases hbig : 4096 < total opn + c.size
                    · have j3 : decide (4096 < (total opn : Int) + (c.size : Int)) = true := decide_eq_true (by omega)
                      go_wp2
                      go_meet
                      exact ⟨by rw [HX.out, decide_eq_true hbig], rfl⟩
                    · have j3 : decide (4096 < (total opn : Int) + (c.size : Int)) = false := decide_eq_false (by omega)
                      go_wp2
                      go_meet
                      exact ⟨by rw [HX.out, decide_eq_false hbig], rfl⟩
                case rest =>
                  obtain ⟨rfl, rfl⟩ := hcut
                  go_upto_if 66 with (fail)
                  go_cut [5, 6, 7] (fun vu vo sz wx => ∃ (H' : Nat) (out' : List (List ByteArray)) (opn' : List ByteArray), Hid (GaR w wx H' out' opn' vu vo) ∧ sz = .int .i64 (total opn' : Int) ∧ Hid (gst l (k + 1) = (out', opn' ++ [c])) ∧ opn'.length ≤ k ∧ total opn' ≤ 1000000)
                  case first =>
                    cases hb : (!opn.isEmpty && decide (4096 < total opn + c.size)) with
                    | true =>
                      rw [Bool.and_eq_true, Bool.not_eq_true', List.isEmpty_eq_false_iff, decide_eq_true_eq] at hb
                      obtain ⟨hne, hbig⟩ := hb
                      have HST : Hid (gst l (k + 1) = (out ++ [opn], [] ++ [c])) := by
                        show _ = _
                        rw [HE.out]; unfold stepG; rw [if_pos hbig]
                        rw [shutG_ne hne]; rfl
                      have HMO := Lib.hid (HGO.out hne)
                      have HTX : Hid (TextsAt wc.heap (.slice po uo.length qo) opn) := SeqIn.at_ (HG1.out.oo.seq (by omega))
                      clear hne hbig
                      go_wp2_with fail
                      refine Calls.mono (rone_any _ opn _ HTX.out HMO.out) ?_
                      rintro e w4 ⟨cc, pp, rfl, hp4, hk4⟩
                      have HP4 := Lib.hid hp4
                      have HU4 := Lib.hid (owns_chgK (T := fun _ => False) HU.out (Kept.any hk4) fun _ _ x => x)
                      have HC1 := Lib.hid (pack_one HP4.out)
                      have hnz4 : w.heap.size ≤ w4.heap.size := Nat.le_trans (Nat.le_trans HG1.out.nh HG1.out.hw) hk4.size
                      have HK4 := Lib.hid hk4
                      clear hk4 hp4
                      go_wp2_with (at_builtin; refine wp_appr1 elRPack rfl (.tmp 67) (.tmp 70) rfl w.heap.size (.slice pu us.length qu) us.length us.flatten rfl (HU4.out.alloc _) _ [.string (strB (blobP opn)), .string (dgP opn), cc, pp] rfl rfl ?_ HC1.out (by omega) ?_ ?_; exact fun j hj => (match j, hj with | 0, _ => World.cell?_alloc_new _ _ _ _ | 1, _ => World.cell?_alloc_new _ _ _ _ | 2, _ => World.cell?_alloc_new _ _ _ _ | 3, _ => World.cell?_alloc_new _ _ _ _); (simp; omega); intro v' w6 hown hchg; obtain ⟨pv, qv, rfl⟩ := own_sliceK hown; have HF := Lib.hid (GaR.shut HG1.out HU.out HL2.out H3.out rfl (HP4.out.keeps (kal w4 _)) (Keeps.trans HK4.out (kal w4 _)) hown hchg); clear hown hchg HP4 HU4 HC1 HK4 hnz4)
                      go_wp2_with fail
                      go_meet
                      exact ⟨_, _, [], HF, rfl, HST, by simp, by simp [total]⟩
                    | false =>
                      have HST : Hid (gst l (k + 1) = (out, opn ++ [c])) := by
                        show _ = _
                        rw [HE.out]; unfold stepG
                        by_cases hbig : 4096 < total opn + c.size
                        · rw [if_pos hbig]
                          rw [decide_eq_true hbig, Bool.and_true, Bool.not_eq_false', List.isEmpty_iff] at hb
                          subst hb; rfl
                        · rw [if_neg hbig]
                      clear hb
                      go_wp2_with fail
                      go_meet
                      exact ⟨_, _, _, HG1, rfl, HST, hop, htt⟩
                  case rest =>
                    obtain ⟨H', out', opn', HG, rfl, HST, hol2, hot⟩ := hcut
                    obtain ⟨wx, hwx⟩ : ∃ wx : World, wx = wc := ⟨_, rfl⟩
                    clear HG1 HE HGO HLE HU HO HP3 H3 HL2 HM2 HM3 HON
                    obtain ⟨uo2, hu1, hu2, hu3⟩ := HG.out.oo
                    obtain ⟨po2, qo2, rfl⟩ := own_slice hu1
                    obtain ⟨uu, hv1, hv2, hv3⟩ := HG.out.ou
                    obtain ⟨pu2, qu2, rfl⟩ := own_sliceK hv1
                    have HO := Lib.hid hu1
                    have HO2 := Lib.hid hu2
                    have HO3 := Lib.hid hu3
                    have huol : uo2.length ≤ 100000 := by omega
                    have hwz := HG.out.hw
                    have dx := keeps_cell HG.out.kp HD0.out
                    have HTC : Hid ((total (opn' ++ [c]) : Int) = (total opn' : Int) + (c.size : Int)) := by show _ = _; rw [total_snoc]; omega
                    clear hu1 hu2 hu3 hv1 hv2 hv3
                    go_wp2_with (at_builtin; refine wp_app1 elText rfl (.tmp 72) (.tmp 77) rfl H' (.slice po2 uo2.length qo2) uo2 rfl (HO.out.alloc _) _ (.string c) rfl (World.cell?_alloc_new _ _ _ _) rfl (by omega) (by simp; omega) ?_; intro v' w6 hown hchg; obtain ⟨pv, qv, rfl⟩ := own_slice hown; have HG7 := Lib.hid (GaR.push HG.out HO.out HO2.out HO3.out (kal _ _) hown hchg); have d7 := keeps_cell HG7.out.kp HD0.out; clear hown hchg)
                    refine ⟨⟨k + 1, H', by omega, by go_num, ?_, ?_⟩, by simp [intOf]; omega⟩
                    · rw [HST.out]
                      show Value.int .i64 _ = .int .i64 (total (opn' ++ [c]) : Int)
                      rw [HTC.out]
                    · rw [HST.out]; exact HG7
        · obtain rfl : k = l.length := by omega
          have hle := gst_le HBD.out (Nat.le_refl l.length)
          have HSH : Hid (shutG ((gst l l.length).1, (gst l l.length).2) = gath l) := rfl
          have HGL := Lib.hid (gath_len l HBD.out)
          have HMX : Hid ((gst l l.length).2 ≠ [] → mayP (gst l l.length).2 = true) := fun h => gst_open HBD.out (Nat.le_refl _) h
          have HEND : Hid (∀ (wf : World) (Hf : Nat) (vf vo : Value), GaR w wf Hf (gath l) [] vf vo → GivePacks 46 w l (.returned (.tuple #[vf, .int .i64 0])) wf) := by
            intro wf Hf vf vo hf
            have := HGL.out
            exact ⟨vf, by rw [HBD.out]; exact ⟨rfl, RecIn.mono (hf.ou.seq (by omega)) (fun _ hb => hb) fun _ _ x => x.mono fun b hb => hb.1⟩, hf.kp⟩
          have HEND0 : Hid (∀ (wf : World) (Hf : Nat) (vf vo : Value), GaR w wf Hf (gath l) (gst l l.length).2 vf vo → GivePacks 46 w l (.returned (.tuple #[vf, .int .i64 0])) wf) := by
            intro wf Hf vf vo hf
            have := HGL.out
            exact ⟨vf, by rw [HBD.out]; exact ⟨rfl, RecIn.mono (hf.ou.seq (by omega)) (fun _ hb => hb) fun _ _ x => x.mono fun b hb => hb.1⟩, hf.kp⟩
          clear HBD
          generalize gst l l.length = st at *
          obtain ⟨out, opn⟩ := st
          simp only [] at hG HSH HMX hle HL2 HM2 HM3 H3 HEND0
          by_cases he : opn = []
          · subst he
            have hu0 : uo.length = 0 := by rw [HM2.out]; rfl
            have j1 : decide (0 < uo.length) = false := decide_eq_false (by omega)
            have j2 : decide ((0 : Int) < (uo.length : Int)) = false := decide_eq_false (by omega)
            have HSX : Hid (out = gath l) := by show _ = _; rw [← HSH.out]; rfl
            clear hu0
            go_wp2_with fail
            go_ret2
            refine HEND0.out _ H9 _ (.slice po uo.length qo) ?_
            rw [← HSX.out]; exact hG.out
          · have j1 : decide (0 < uo.length) = true := decide_eq_true (by rw [HM2.out]; exact List.length_pos_iff.2 he)
            have j2 : decide ((0 : Int) < (uo.length : Int)) = true := decide_eq_true (by have := of_decide_eq_true j1; omega)
            have HMO := Lib.hid (HMX.out he)
            have HTX : Hid (TextsAt wr.heap (.slice po uo.length qo) opn) := SeqIn.at_ (hG.out.oo.seq (by omega))
            have HSX : Hid (out ++ [opn] = gath l) := by show _ = _; rw [← HSH.out]; exact (shutG_ne (s := (out, opn)) he).symm
            clear he
            go_wp2_with fail
            refine Calls.mono (rone_any _ opn _ HTX.out HMO.out) ?_
            rintro e w4 ⟨cc, pp, rfl, hp4, hk4⟩
            have HP4 := Lib.hid hp4
            have HU4 := Lib.hid (owns_chgK (T := fun _ => False) HU0.out (Kept.any hk4) fun _ _ x => x)
            have HC1 := Lib.hid (pack_one HP4.out)
            have hnz4 : w.heap.size ≤ w4.heap.size := Nat.le_trans (Nat.le_trans hG.out.nh hG.out.hw) hk4.size
            have HK4 := Lib.hid hk4
            clear hk4 hp4
            go_wp2_with (at_builtin; refine wp_appr1 elRPack rfl (.tmp 89) (.tmp 92) rfl w.heap.size (.slice pu us.length qu) us.length us.flatten rfl (HU4.out.alloc _) _ [.string (strB (blobP opn)), .string (dgP opn), cc, pp] rfl rfl ?_ HC1.out (by omega) ?_ ?_; exact fun j hj => (match j, hj with | 0, _ => World.cell?_alloc_new _ _ _ _ | 1, _ => World.cell?_alloc_new _ _ _ _ | 2, _ => World.cell?_alloc_new _ _ _ _ | 3, _ => World.cell?_alloc_new _ _ _ _); (simp; omega); intro v' w6 hown hchg; obtain ⟨pv, qv, rfl⟩ := own_sliceK hown; have HF := Lib.hid (GaR.shut hG.out HU0.out HL2.out H3.out rfl (HP4.out.keeps (kal w4 _)) (Keeps.trans HK4.out (kal w4 _)) hown hchg); clear hown hchg HP4 HU4 HC1 HK4 hnz4)
            go_ret2
            refine HEND.out _ w6.heap.size _ (.slice none 0 0) ?_
            rw [← HSX.out]; exact HF.out
end Go.Proofs.Yteandjophamipaa
