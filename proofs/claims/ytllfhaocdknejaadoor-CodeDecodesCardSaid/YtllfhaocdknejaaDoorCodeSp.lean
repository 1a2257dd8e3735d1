/- The walk of code.spread. -/
import Derived.Test.YtllfhaocdknejaaDoorCodeDt
import Derived.Test.YtllfhaocdknejaaDoorRowG
namespace Go.Proofs.YtllfhaocdknejaaDoor
open Go.RowKit
attribute [local go_sem ↓] Go.wp_at_zero Go.wp_at_succ
/-- The sum of the first j products. -/
def parS (m l : List (List UInt8)) (i j q : Nat) : UInt8 := LA.sum j fun t => LA.mul (LA.at_ m i t) (LA.at_ l t q)
theorem parS_succ (m l : List (List UInt8)) (i j q : Nat) : parS m l i (j + 1) q = parS m l i j q ^^^ LA.mul (LA.at_ m i j) (LA.at_ l j q) := rfl
theorem parS_skip {m l : List (List UInt8)} {i j : Nat} (h : LA.at_ m i j = 0) (q : Nat) : parS m l i (j + 1) q = parS m l i j q := by rw [parS_succ, h, LA.zero_mul, LA.xor_zero]
theorem row_ofF {h : Array Obj} {b n : Nat} {g : Nat → UInt8} (r : RowF h b n g) : Row' b n n g h := ⟨r.1, fun j hj => ⟨(r.2 j hj).1, _, (r.2 j hj).2⟩, fun j hj => (r.2 j hj).2⟩
theorem mat_rowP {w : World} {p : Option Addr} {n q : Nat} {m : List (List UInt8)} (h : MatAt w.heap (.slice p n q) m) {i c : Nat} (hi : i < m.length) (hc : ∀ r ∈ m, r.length = c) : ∃ b off pr qr, p = some ⟨b, off, none⟩ ∧ w.cell? ⟨b, off + i, none⟩ = some (.slice pr c qr) ∧ RowAt w.heap (.slice pr c qr) m[i] := by
  obtain ⟨b, off, q', u, e, h1, h2⟩ := seq_cell h hi
  injection e with e1 _ _
  obtain ⟨pr, qr, rfl⟩ := seq_shape h2
  rw [hc _ (List.getElem_mem hi)] at h1 h2
  exact ⟨b, off, pr, qr, e1, h1, h2⟩
theorem row_byteP {w : World} {p : Option Addr} {n q : Nat} {r : List UInt8} (h : RowAt w.heap (.slice p n q) r) {i : Nat} (hi : i < r.length) : ∃ b off, p = some ⟨b, off, none⟩ ∧ w.cell? ⟨b, off + i, none⟩ = some (.int .u8 (r[i].toNat : Int)) := by
  obtain ⟨b, off, q', u, e, h1, h2⟩ := seq_cell h hi
  injection e with e1 _ _
  unfold IsByte at h2
  exact ⟨b, off, e1, by rw [h1, h2]⟩
theorem at_get {m : List (List UInt8)} {i j : Nat} (hi : i < m.length) (hj : j < m[i].length) : LA.at_ m i j = m[i][j] := by
  unfold LA.at_
  rw [List.getD_eq_getElem?_getD (l := m), List.getElem?_eq_getElem hi, List.getD_eq_getElem?_getD, Option.getD_some, List.getElem?_eq_getElem hj]; rfl
/-- The rows that are done stay, whatever the new block holds. -/
theorem sp_keeps {w2 wo W0 wi : World} {k : Nat} {v : Value} {o : Obj} (h : Keeps w2 wo) (h0 : W0 = (wo.setCell ⟨w2.heap.size, k, none⟩ v).alloc o) (c : Chg (fun x => x = wo.heap.size) W0 wi) : Keeps w2 wi := by
  subst h0
  exact (((h.chg.setCell (p := ⟨w2.heap.size, k, none⟩) (fun _ => Nat.le_refl _) v).alloc o).trans (c.mono fun x _ e => by have := h.size; omega)).keeps fun x hx e => by omega
set_option maxRecDepth 100000 in
set_option maxHeartbeats 4000000 in
theorem cspread_any (vm vl : Value) (m l : List (List UInt8)) (s : Nat) (w : World) (hm : MatAt w.heap vm m) (hl : MatAt w.heap vl l) (h1 : ∀ r ∈ m, r.length = l.length) (h2 : ∀ r ∈ l, r.length = s) (h3 : 1 ≤ l.length) (h4 : m.length ≤ 4096) (h5 : l.length ≤ 4096) (h6 : s ≤ 1000000) :
    Calls Tryd.prog 36 #[vm, vl] w fun e w' => ∃ v, e = .returned v ∧ MatIn (w.heap.size ≤ ·) w'.heap v (sprM m l s) ∧ Keeps w w' := by
  obtain ⟨pm, qm, rfl⟩ := seq_shape hm
  obtain ⟨pl, ql, rfl⟩ := seq_shape hl
  have HM := Lib.hid hm
  have HL := Lib.hid hl
  have HR1 := Lib.hid h1
  have HR2 := Lib.hid h2
  have hmk := mk_rows m.length h4
  have hmk2 := mk_rowL s h6
  clear hm hl h1 h2
  go_enter Tryd.func36, Tryd.ntmps36
  go_wp2_with fail
  refine Calls.mono (new_any _) ?_
  rintro e w2 ⟨rfl, hk2, ht⟩
  have HK2 := Lib.hid hk2
  have HT := Lib.hid ht
  have hltb := ht.lt
  clear hk2 ht
  go_wp2_with fail
  clear hmk
  go_loopw [19] (fun i wr => ∃ k : Nat, k ≤ m.length ∧ i = .int .i64 k ∧ Hid (Rows' w2.heap.size k m.length s (sprAt m l) wr.heap) ∧ Hid (Keeps w2 wr) ∧ w2.heap.size < wr.heap.size) (fun i _ => m.length - (intOf i).toNat)
  case atStart => exact ⟨0, by omega, rfl, Rows'.zero w2 _ _ _, kal w2 _, by simp⟩
  case round =>
    obtain ⟨k, hk, rfl, hR, hK, hsz⟩ := hrel
    obtain ⟨wo, rfl⟩ : ∃ wo : World, wo = wr := ⟨_, rfl⟩
    by_cases hlt : k < m.length
    · have hlt64 : (k : Int) < (m.length : Int) := by omega
      have hk0 : (0 : Int) ≤ (k : Int) := by omega
      obtain ⟨bm, om, pr, qr, rfl, d0, r0⟩ := mat_rowP HM.out hlt HR1.out
      have d1 := keeps_cell (HK2.out.trans hK.out) d0
      obtain ⟨bl, ol, p0, q0, rfl, d20, _⟩ := mat_rowP HL.out (i := 0) h3 HR2.out
      rw [Nat.add_zero] at d20
      have d2 := keeps_cell (HK2.out.trans hK.out) d20
      obtain ⟨f1, u1, g1⟩ := hR.out.2.1 k hlt
      rw [← froz_of] at f1
      rw [← cell_of] at g1
      have HG1 := Lib.hid g1
      have HR0 := Lib.hid r0
      have hlen0 : 0 < l.length := h3
      clear d0 d20 r0
      go_wp2_with fail
      clear hmk2 d1 d2 f1 g1
      obtain ⟨W0, hW0⟩ : ∃ W0, W0 = (wo.setCell ⟨w2.heap.size, k, none⟩ (.slice (some ⟨wo.heap.size, 0, none⟩) s s)).alloc (.cells (reps s (.int .u8 0)) 5) := ⟨_, rfl⟩
      rw [← hW0]
      have HRF0 : Hid (RowF W0.heap wo.heap.size s (parS m l k 0)) := by
        rw [hW0]
        have := RowF.new (wo.setCell ⟨w2.heap.size, k, none⟩ (.slice (some ⟨wo.heap.size, 0, none⟩) s s)) s
        rw [World.size_setCell] at this
        exact this
      have HC0 : Hid (W0.cell? ⟨w2.heap.size, k, none⟩ = some (.slice (some ⟨wo.heap.size, 0, none⟩) s s)) := by
        show _ = _
        rw [hW0, World.cell?_alloc_past _ _ _ (by simpa using hsz)]
        exact World.cell?_setCell_same _ _ _ HG1.out
      have HW0 := Lib.hid hW0
      clear hW0
      go_loopw [34] (fun j wr => ∃ t : Nat, t ≤ l.length ∧ j = .int .i64 t ∧ Hid (RowF wr.heap wo.heap.size s (parS m l k t)) ∧ Hid (Chg (fun x => x = wo.heap.size) W0 wr)) (fun j _ => l.length - (intOf j).toNat)
      case atStart => exact ⟨0, by omega, rfl, HRF0, Chg.refl _ _⟩
      case round =>
        clear HRF0
        obtain ⟨t, ht, rfl, hF, hC⟩ := hrel
        obtain ⟨wi, rfl⟩ : ∃ wi : World, wi = wr := ⟨_, rfl⟩
        have HKI : Hid (Keeps w2 wi) := sp_keeps hK.out HW0.out hC.out
        by_cases htl : t < l.length
        · have ht64 : (t : Int) < (l.length : Int) := by omega
          have ht0 : (0 : Int) ≤ (t : Int) := by omega
          have hmk0 : m[k].length = l.length := HR1.out _ (List.getElem_mem hlt)
          obtain ⟨br, orr, rfl, e1⟩ := row_byteP (SeqAt.keeps HR0.out (HK2.out.trans HKI.out)) (i := t) (by omega)
          rw [← at_get hlt (by omega)] at e1
          have HPS := Lib.hid (fun q => parS_succ m l k t q)
          have HSK := Lib.hid (fun h q => parS_skip (m := m) (l := l) (i := k) (j := t) h q)
          clear hmk0
          generalize LA.at_ m k t = x at *
          by_cases hx0 : x = 0
          · as_aux_lemma =>
            subst hx0
            go_wp2_with fail
            exact ⟨⟨t + 1, by omega, by go_num, hF.out.congr fun q _ => (HSK.out rfl q).symm, hC⟩, by simp [intOf]; omega⟩
          · have hxn : x.toNat ≠ 0 := fun e => hx0 (UInt8.toNat_inj.1 e)
            have b0 : ((x.toNat : Int) == 0) = false := by rw [beq_eq_false_iff_ne]; omega
            have b1 : (x.toNat == 0) = false := by rw [beq_eq_false_iff_ne]; exact hxn
            have b2 : (x == 0) = false := by rw [beq_eq_false_iff_ne]; exact hx0
            obtain ⟨bl', ol', pt, qt, el, d3, r3⟩ := mat_rowP HL.out htl HR2.out
            simp only [Option.some.injEq, Addr.mk.injEq, and_true] at el
            obtain ⟨rfl, rfl⟩ := el
            have d4 := keeps_cell (HK2.out.trans HKI.out) d3
            have HR3 := Lib.hid r3
            have HLT : Hid (l[t].length = s) := HR2.out _ (List.getElem_mem htl)
            clear hx0 hxn HSK d3 r3
            go_wp2_with fail
            clear d4 b0 b1 b2 e1
            go_loopw [46] (fun b wr => ∃ q : Nat, q ≤ s ∧ b = .int .i64 q ∧ Hid (RowF wr.heap wo.heap.size s (fun z => if z < q then parS m l k (t + 1) z else parS m l k t z)) ∧ Hid (Chg (fun x => x = wo.heap.size) W0 wr)) (fun b _ => s - (intOf b).toNat)
            case atStart => exact ⟨0, by omega, rfl, hF.out.congr fun z _ => by (try dsimp only); rw [if_neg (by omega)], hC⟩
            case round =>
              obtain ⟨q, hq, rfl, hF2, hC2⟩ := hrel
              have HKQ : Hid (Keeps w2 wr) := sp_keeps hK.out HW0.out hC2.out
              by_cases hql : q < s
              · as_aux_lemma =>
                have hq64 : (q : Int) < (s : Int) := by omega
                have hq0 : (0 : Int) ≤ (q : Int) := by omega
                obtain ⟨bt, ot, rfl, e2⟩ := row_byteP (SeqAt.keeps HR3.out (HK2.out.trans HKQ.out)) (i := q) (by rw [HLT.out]; exact hql)
                rw [← at_get htl (by rw [HLT.out]; exact hql)] at e2
                obtain ⟨f0, c0⟩ := hF2.out.2 q hql
                rw [← froz_of] at f0
                rw [← cell_of] at c0
                dsimp only at c0
                rw [if_neg (by omega)] at c0
                have c9 : wr.cell? ⟨w2.heap.size, k, none⟩ = some (.slice (some ⟨wo.heap.size, 0, none⟩) s s) := by
                  rw [cell_of]; exact cellH_chg hC2.out (by rw [← cell_of]; exact HC0.out) (by omega)
                have hT : Hid (Tab wr.heap w.heap.size) := HT.out.keeps HKQ.out
                have HN : Hid (∀ y : UInt8, parS m l k t q ^^^ LA.mul x (LA.at_ l t q) = y → RowF (wr.setCell ⟨wo.heap.size, q, none⟩ (.int .u8 (y.toNat : Int))).heap wo.heap.size s (fun z => if z < q + 1 then parS m l k (t + 1) z else parS m l k t z)) := fun y hy =>
                  (hF2.out.set hql y).congr fun z hz => by
                    (try dsimp only)
                    by_cases e : z = q
                    · subst e; rw [if_pos rfl, if_pos (by omega), HPS.out, hy]
                    · rw [if_neg e]
                      by_cases e2 : z < q
                      · rw [if_pos e2, if_pos (by omega)]
                      · rw [if_neg e2, if_neg (by omega)]
                generalize parS m l k t q = y0 at *
                generalize LA.at_ l t q = z at *
                generalize hp : LA.mul x z = p at *
                generalize hu : y0 ^^^ p = u at *
                have HP := Lib.hid hp
                have HU := Lib.hid hu
                clear hp hu
                go_wp2_with fail
                refine wp_region_tail (List.dropLast _) (List.getLast _ (List.cons_ne_nil _ _)) (List.dropLast_concat_getLast _).symm (by kernel_rfl) (by kernel_rfl) (by kernel_rfl) (by kernel_rfl) rfl (by kernel_rfl) ?_; simp only [List.dropLast_cons_cons, List.dropLast_singleton, List.getLast_cons_cons, List.getLast_singleton]; (repeat (go_big_quiet_step ((first | (go_at_call 48; refine Calls.mono (gmul_e _ _ _ p _ HP.out ?_) ?_; exact hT.out; rintro e w' ⟨rfl, n9, rfl⟩; first | exact ⟨rfl, _, rfl⟩ | exact ⟨rfl, _, World.drewN_drewN _ _ _⟩) | (go_at_call 47; refine Calls.mono (gadd_e _ _ _ u _ HU.out) ?_; rintro e w' ⟨rfl, rfl⟩; exact ⟨rfl, _, rfl⟩))))); refine wpQuiet_nil ?_; intro _ hw1; obtain ⟨nq, hw2⟩ := hw1; subst hw2
                go_wp2_with fail
                exact ⟨⟨q + 1, by omega, by go_num, HN.out u rfl, Chg.setCell (T := fun x => x = wo.heap.size) hC2.out (fun _ => rfl) _⟩, by simp [intOf]; omega⟩
              · as_aux_lemma =>
                obtain rfl : q = s := by omega
                go_wp2_with fail
                exact ⟨⟨t + 1, by omega, by go_num, hF2.out.congr fun z hz => by (try dsimp only); rw [if_pos hz], hC2⟩, by simp [intOf]; omega⟩
        · as_aux_lemma =>
          obtain rfl : t = l.length := by omega
          have HKE : Hid (Keeps w2 wi) := HKI
          have HRN : Hid (Rows' w2.heap.size (k + 1) m.length s (sprAt m l) wi.heap) := hR.out.next hlt hsz h6 (by have := hC.out; rw [HW0.out] at this; exact this) (row_ofF hF.out)
          have hs2 : w2.heap.size < wi.heap.size := by
            have h7 := hC.out.size
            rw [HW0.out, World.size_alloc, World.size_setCell] at h7
            omega
          go_wp2_with fail
          exact ⟨⟨k + 1, by omega, by go_num, HRN, HKE, hs2⟩, by simp [intOf]; omega⟩
    · obtain rfl : k = m.length := by omega
      go_wp2
      go_ret
      refine ⟨_, rfl, ?_, HK2.out.trans hK.out⟩
      exact MatIn.mono (hR.out.mat (by omega)) fun b hb => Nat.le_trans (Nat.le_of_lt hltb) hb
end Go.Proofs.YtllfhaocdknejaaDoor
