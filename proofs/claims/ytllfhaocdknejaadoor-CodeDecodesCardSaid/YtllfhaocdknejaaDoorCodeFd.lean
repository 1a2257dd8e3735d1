/- The walk of code.first: the first payloads out of those at hand. -/
import Derived.Test.YtllfhaocdknejaaDoorDecM
import Derived.Test.YtllfhaocdknejaaDoorSolTurn
import Derived.Test.YtllfhaocdknejaaDoorConv
import Derived.Test.YtllfhaocdknejaaDoorShelf
import Derived.Test.YtllfhaocdknejaaDoorText
import Derived.Lib.FrozenHead2
import Derived.Lib.OthersKept
import Derived.Shelf.Strings.Builder1
import Derived.Test.YtllfhaocdknejaaDoorStrCut
import Derived.Test.YtllfhaocdknejaaDoorHand
import Derived.Test.YtllfhaocdknejaaDoorCodeErr
import Derived.Maps.RangeWalk
namespace Go.Proofs.YtllfhaocdknejaaDoor
open Go.RowKit
attribute [local go_sem ↓] Go.wp_at_zero Go.wp_at_succ
theorem SeqAt.front {α : Type} {R : Value → α → Prop} {h : Array Obj} {p : Option Addr} {n c k : Nat} {l : List α} (s : SeqAt R h (.slice p n c) l) (hk : k ≤ l.length) : SeqAt R h (.slice p k c) (l.take k) := by
  obtain ⟨a, cap, e, hl, hel⟩ := s
  injection e with e1 e2 e3
  subst e1 e3
  have hkl : (l.take k).length = k := by rw [List.length_take]; omega
  refine ⟨p, c, by rw [hkl], by omega, fun i hi => ?_⟩
  obtain ⟨b, off, u, e1, e2, e3⟩ := hel i (by omega)
  exact ⟨b, off, u, e1, e2, by rw [List.getElem_take]; exact e3⟩
theorem even_false {ps : List ByteArray} {j : Nat} (hj : j < ps.length) (h : ps[j].size ≠ sizeP ps) : evenP ps = false := by
  unfold evenP
  rw [List.all_eq_false]
  exact ⟨ps[j], List.getElem_mem hj, by simp [h]⟩
theorem even_true {ps : List ByteArray} (h : ∀ j (hj : j < ps.length), ps[j].size = sizeP ps) : evenP ps = true := by
  unfold evenP
  rw [List.all_eq_true]
  intro p hp
  obtain ⟨j, hj, rfl⟩ := List.mem_iff_getElem.1 hp
  rw [h j hj]; simp
theorem even_out {ps : List ByteArray} (h : evenP ps = true) {j : Nat} (hj : j < ps.length) : ps[j].size = sizeP ps := by
  unfold evenP at h
  exact eq_of_beq (List.all_eq_true.1 h _ (List.getElem_mem hj))
theorem size_head {ps : List ByteArray} (h : 0 < ps.length) : sizeP ps = ps[0].size := by
  unfold sizeP
  cases ps with
  | nil => simp at h
  | cons p q => rfl
theorem bytesP_snoc {ps : List ByteArray} {k : Nat} (h : k < ps.length) : bytesP (ps.take (k + 1)) = bytesP (ps.take k) ++ [ps[k].data.toList] := by
  unfold bytesP; rw [List.take_succ_eq_append_getElem h, List.map_append]; rfl
/-- Rows and Turn at hand: what they tell. -/
theorem rows_turn {K N : Nat} {hv : List Int} (hK : 1 ≤ K) (hKN : K ≤ N) (hN : N ≤ 12) (hg : goodH (N : Int) hv = true) (hk : K ≤ hv.length) :
    rowsM (matOf N K (codeAt K)) (hv.take K) = (pick (matOf N K (codeAt K)) (hv.take K), 0) ∧ turnM (pick (matOf N K (codeAt K)) (hv.take K)) = (backM K N hv, 0) ∧ (backM K N hv).length = K ∧ LA.Rect (backM K N hv) K := by
  have hln : (hv.take K).length = K := by rw [List.length_take]; omega
  have hr := pick_rect (K := K) hg
  have hf := pick_full hKN hN hg hk
  have hpl : (pick (matOf N K (codeAt K)) (hv.take K)).length = K := by rw [pick_len, hln]
  refine ⟨rowsM_make (may_matOf _ (by omega) hN hK (by omega)) (by omega) (by omega) fun x hx => ?_, ?_, ?_, (turn_full hr hpl hf).1⟩
  · rw [matOf_len]
    exact (goodH_iff.1 (goodH_take hg K)).1 x hx
  · rw [turnM_sq hr hpl hK (by omega), if_neg (by omega)]; rfl
  · unfold backM; rw [turnOf_length, hpl]
set_option maxRecDepth 100000 in
set_option maxHeartbeats 4000000 in
theorem first_any (K N : Nat) (vh vp : Value) (hv : List Int) (ps : List ByteArray) (w : World) (hc : codeB K N = true) (hg : goodH (N : Int) hv = true) (hl : hv.length = ps.length) (hkv : K ≤ hv.length) (hps : ∀ p ∈ ps, p.size ≤ 1000000) (hh : SeqAt IsInt w.heap vh hv) (hp : TextsAt w.heap vp ps) (ch : CapOk vh) (cp : CapOk vp) :
    Calls Tryd.prog 27 #[.agg #[.int .i64 (K : Int), .int .i64 (N : Int)], vh, vp] w fun e w' => ∃ v, e = .returned (.tuple #[v, .bool (evenP ps && decide (sizeP ps ≠ 0))]) ∧ ((evenP ps && decide (sizeP ps ≠ 0)) = true → MatIn (w.heap.size ≤ ·) w'.heap v (firstM K N hv ps)) ∧ Keeps w w' := by
  obtain ⟨h1, h3, h4⟩ := codeB_true.1 hc
  obtain ⟨p1, q1, rfl⟩ := seq_shape hh
  obtain ⟨p2, q2, rfl⟩ := seq_shape hp
  obtain ⟨_, _, _, e1, ch⟩ := ch
  injection e1 with e2 e3 e4
  subst e2 e3 e4
  obtain ⟨_, _, _, e1, cp⟩ := cp
  injection e1 with e2 e3 e4
  subst e2 e3 e4
  have hK1 : 1 ≤ K := by omega
  have hKN : K ≤ N := by omega
  have hN12 : N ≤ 12 := by omega
  obtain ⟨b2, o2, rfl, d0⟩ := text_cellH hp (i := 0) (by omega)
  obtain ⟨b1, o1, rfl, _⟩ := int_cellP hh (i := 0) (by omega)
  have HC0 : Hid (∀ wx, Keeps (w.alloc (.cells #[.int .i64 (K : Int), .int .i64 (N : Int)] 23)) wx → wx.cell? ⟨w.heap.size, 0, none⟩ = some (.int .i64 (K : Int)) ∧ wx.cell? ⟨w.heap.size, 1, none⟩ = some (.int .i64 (N : Int))) := fun wx hx => ⟨keeps_cell hx (World.cell?_alloc_new _ _ _ _), keeps_cell hx (World.cell?_alloc_new _ _ _ _)⟩
  have HH := Lib.hid hh
  have HP := Lib.hid hp
  have HC := Lib.hid hc
  have HPS := Lib.hid hps
  have HL := Lib.hid hl
  have HOF : Hid (ofM (K : Int) (N : Int) = (matOf N K (codeAt K), 0)) := by show _ = _; unfold ofM; rw [HC.out]; rfl
  have HRT := Lib.hid (rows_turn hK1 hKN hN12 hg hkv)
  have HS0 := Lib.hid (size_head (ps := ps) (by omega))
  have HEF := Lib.hid (fun j (hj : j < ps.length) => even_false (ps := ps) hj)
  have HET := Lib.hid (even_true (ps := ps))
  have HEO := Lib.hid (fun (h : evenP ps = true) j (hj : j < ps.length) => even_out h hj)
  have HZ : Hid (sizeP ps ≤ 1000000) := by show _ ≤ _; rw [HS0.out]; exact HPS.out _ (List.getElem_mem _)
  have d0' := keeps_cell (kal w (.cells #[.int .i64 (K : Int), .int .i64 (N : Int)] 23)) d0
  rw [Nat.add_zero] at d0'
  have h0l : 0 < ps.length := by omega
  have h0l64 : (0 : Int) < (ps.length : Int) := by omega
  generalize hs0 : ps[0]'h0l = s0 at *
  have hl63 : ps.length ≤ 9223372036854775807 := let ⟨_, _, _, x, _⟩ := hp; x
  generalize hfl : (evenP ps && decide (sizeP ps ≠ 0)) = fl at *
  have HF0 : Hid (evenP ps = false → fl = false) := fun h => by rw [← hfl, h]; rfl
  have HF1 : Hid (sizeP ps = 0 → fl = false) := fun h => by rw [← hfl, h]; simp
  have HF2 : Hid (evenP ps = true → sizeP ps ≠ 0 → fl = true) := fun h h' => by rw [← hfl, h, decide_eq_true h']; rfl
  clear hh hp hc hps hg d0 hs0 hfl
  go_enter Tryd.func27, Tryd.ntmps27
  go_wp2_with fail
  rw [← HS0.out]
  clear HS0 d0'
  generalize hsz : sizeP ps = sz at *
  have hszb : sz ≤ 1000000 := HZ.out
  go_loopw [26] (fun i wr => ∃ j : Nat, j ≤ ps.length ∧ i = .int .i64 j ∧ Hid (∀ q (h : q < ps.length), q < j → ps[q].size = sz) ∧ wr = w.alloc (.cells #[.int .i64 (K : Int), .int .i64 (N : Int)] 23)) (fun i _ => ps.length - (intOf i).toNat)
  case atStart => exact ⟨0, by omega, rfl, fun q _ h => by omega, rfl⟩
  case round =>
    obtain ⟨j, hj, rfl, hE, rfl⟩ := hrel
    by_cases hlt : j < ps.length
    · have hlt64 : (j : Int) < (ps.length : Int) := by omega
      have hj0 : (0 : Int) ≤ (j : Int) := by omega
      obtain ⟨b3, o3, e3, d1⟩ := text_cellH (SeqAt.keeps HP.out (kal w (.cells #[.int .i64 (K : Int), .int .i64 (N : Int)] 23))) hlt
      injection e3 with e3
      injection e3 with e4 e5
      subst e4 e5
      have HEJ := Lib.hid (HEF.out j hlt)
      have HEN : Hid (ps[j].size = sz → ∀ q (h : q < ps.length), q < j + 1 → ps[q].size = sz) := fun e q h hq => by
        rcases Nat.lt_or_ge q j with h' | h'
        · exact hE.out q h h'
        · obtain rfl : q = j := by omega
          exact e
      have HSB : Hid (ps[j].size ≤ 1000000) := HPS.out _ (List.getElem_mem hlt)
      generalize ps[j] = s at *
      have hsb := HSB.out
      by_cases hs : s.size = sz
      · have q1 : ((s.size : Int) != (sz : Int)) = false := by rw [bne_eq_false_iff_eq]; omega
        have q2 : (s.size != sz) = false := by rw [bne_eq_false_iff_eq]; omega
        go_wp2_with fail
        exact ⟨⟨j + 1, by omega, by go_num, HEN.out hs, by first | rfl | trivial⟩, by simp [intOf]; omega⟩
      · have q1 : ((s.size : Int) != (sz : Int)) = true := by rw [bne_iff_ne]; omega
        have q2 : (s.size != sz) = true := by rw [bne_iff_ne]; omega
        have HEV := Lib.hid (HF0.out (HEJ.out hs))
        go_wp2_with fail
        go_ret2
        exact ⟨_, by rw [HEV.out]; rfl, (fun h => absurd (HEV.out.symm.trans h) (by decide)), kal w _⟩
    · obtain rfl : j = ps.length := by omega
      have HEV := Lib.hid (HET.out fun q h => hE.out q h h)
      obtain ⟨t1, t2, t3, t4⟩ := HRT.out
      have HT1 := Lib.hid t1
      have HT2 := Lib.hid t2
      have HT3 := Lib.hid t3
      have HT4 := Lib.hid t4
      obtain ⟨c0, c1⟩ := HC0.out _ (keeps_refl _)
      have kq1 : K ≤ q1 := by omega
      have kq2 : K ≤ q2 := by omega
      have kq3 : (K : Int) ≤ (q1 : Int) := by omega
      have kq4 : (K : Int) ≤ (q2 : Int) := by omega
      have kq0 : (0 : Int) ≤ (K : Int) := by omega
      clear t1 t2 t3 t4 HRT hlt hj hE
      go_wp2_with fail
      refine Calls.mono (matof_any (K : Int) (N : Int) _) ?_
      rintro e w1 ⟨vm, rfl, hm, hk1⟩
      rw [HOF.out] at hm ⊢
      have HM := Lib.hid hm.at_
      have HK1 := Lib.hid hk1
      obtain ⟨c0, c1⟩ := HC0.out _ hk1
      have HHK : Hid (SeqAt IsInt w1.heap (.slice (some ⟨b1, o1, none⟩) K q1) (hv.take K)) := SeqAt.front (SeqAt.keeps HH.out ((kal w _).trans hk1)) hkv
      clear hm hk1
      go_wp2_with fail
      refine Calls.mono (matrows_any vm _ _ (hv.take K) _ HM.out HHK.out) ?_
      rintro e w2 ⟨vr, rfl, hm, hk2⟩
      rw [HT1.out] at hm ⊢
      have HR := Lib.hid hm.at_
      have HK2 := Lib.hid (HK1.out.trans hk2)
      clear hm hk2
      go_wp2_with fail
      refine Calls.mono (turn_any vr _ _ HR.out) ?_
      rintro e w3 ⟨vt, rfl, hm, hk3⟩
      rw [HT2.out] at hm ⊢
      have HT := Lib.hid hm.at_
      have HK3 := Lib.hid (HK2.out.trans hk3)
      obtain ⟨c0, c1⟩ := HC0.out _ HK3.out
      clear hm hk3
      by_cases hz : sz = 0
      · have HEV2 := Lib.hid (HF1.out hz)
        subst hz
        go_wp2_with fail
        go_ret2
        exact ⟨_, by rw [HEV2.out]; rfl, (fun h => absurd (HEV2.out.symm.trans h) (by decide)), (kal w _).trans HK3.out⟩
      · have HEV2 := Lib.hid (HF2.out HEV.out hz)
        have q1 : (sz == 0) = false := by simp [hz]
        have q2 : ((sz : Int) == 0) = false := by simp [hz]
        have q3 : (sz : Int) ≠ 0 := by omega
        go_wp2_with fail
        clear c0 c1
        go_loopw [17, 65] (fun v i wr => ∃ k : Nat, k ≤ K ∧ i = .int .i64 k ∧ Hid (OwnRows w3.heap.size wr v (bytesP (ps.take k))) ∧ Hid (Keeps w3 wr)) (fun _ i _ => K - (intOf i).toNat)
        case atStart => exact ⟨0, by omega, rfl, OwnSeq.nil _ _ _ _, keeps_refl w3⟩
        case round =>
          obtain ⟨k, hk, rfl, hR, hK⟩ := hrel
          by_cases hlt : k < K
          · have hlt64 : (k : Int) < (K : Int) := by omega
            have hk0 : (0 : Int) ≤ (k : Int) := by omega
            have hkp : k < ps.length := by omega
            obtain ⟨b3, o3, e3, d1⟩ := text_cellH (SeqAt.keeps HP.out ((kal w (.cells #[.int .i64 (K : Int), .int .i64 (N : Int)] 23)).trans (HK3.out.trans hK.out))) hkp
            injection e3 with e3
            injection e3 with e4 e5
            subst e4 e5
            obtain ⟨us, hu1, hu2, hu3⟩ := hR.out
            have hul : us.length = k := by rw [hu2]; unfold bytesP; rw [List.length_map, List.length_take]; omega
            obtain ⟨pv, qv, rfl⟩ := own_slice hu1
            have HU := Lib.hid hu1
            have HL2 := Lib.hid hu2
            have HL3 := Lib.hid hul
            have H3 := Lib.hid hu3
            have HTK := Lib.hid (bytesP_snoc (ps := ps) hkp)
            have HSB : Hid (ps[k].size ≤ 1000000) := HPS.out _ (List.getElem_mem hkp)
            have hsz := hK.out.size
            clear hu1 hu2 hu3 hul
            generalize ps[k] = s at *
            have hsb := HSB.out
            go_wp2_with (first | (refine wp_bytes rfl 9 39 (.tmp 70) rfl s rfl Tryd.underlying9 Tryd.underlying39 Tryd.underlying5 (by omega) ?_; intro c w4 hc hrow hk4; have HROW := Lib.hid (SeqIn.mono (S' := fun b => w3.heap.size ≤ b) hrow (fun b hb => by rw [hb]; exact hsz) fun _ _ x => x); have HK4 := Lib.hid hk4; clear hrow hk4; have HO := Lib.hid (owns_chg (T := fun _ => False) HU.out (Kept.any HK4.out) fun b hb x => x)) | (at_builtin; refine wp_app1 elRows rfl (.tmp 69) (.tmp 72) rfl w3.heap.size (.slice pv us.length qv) us rfl (HO.out.alloc _) _ (.slice (some ⟨wr.heap.size, 0, none⟩) s.size c) rfl (World.cell?_alloc_new _ _ _ _) rfl (by have := HL3.out; omega) (by have := HK4.out.size; simp; omega) ?_; intro v' w6 hown hchg; have HP6 := Lib.hid (OwnRows.push (m := bytesP (ps.take k)) (T := fun _ => False) HL2.out H3.out (Kept.any (HK4.out.trans (kal w4 _))) (fun _ _ _ _ x => x) hown hchg (fun b hb => typH_chg (T := fun _ => False) ((Chg.refl _ w4).alloc _) (own_block HO.out b hb).2.2 (fun x => x)) (SeqIn.chg HROW.out (T := fun _ => False) ((Chg.refl _ _).alloc _) (fun _ _ _ _ x => x) fun _ _ _ x => x)); have HK6 : Hid (Keeps w3 w6) := hK.out.then (chg_kept (B := w3.heap.size) (Chg.trans (Kept.any (HK4.out.trans (kal w4 _))) hchg) (fun q _ e => (own_block HU.out q e).1) hK.out.size) (Nat.le_refl _); clear hown hchg))
            exact ⟨⟨k + 1, by omega, by go_num, by rw [HTK.out]; exact HP6, HK6⟩, by simp [intOf]; omega⟩
          · obtain rfl : k = K := by omega
            have HBL : Hid ((bytesP (ps.take k)).length = k) := by show _ = _; unfold bytesP; rw [List.length_map, List.length_take]; omega
            have HBR : Hid (∀ r ∈ bytesP (ps.take k), r.length = sz) := fun r hr => by
              unfold bytesP at hr
              obtain ⟨p, hp, rfl⟩ := List.mem_map.1 hr
              rw [data_size]
              obtain ⟨q, hq, rfl⟩ := List.mem_iff_getElem.1 (List.mem_of_mem_take hp)
              exact HEO.out HEV.out q hq
            have HML := Lib.hid (OwnRows.mat hR.out (by have := HBL.out; omega)).at_
            have HMT := Lib.hid (MatAt.keeps HT.out hK.out)
            have HKR := Lib.hid (HK3.out.trans hK.out)
            have HFM : Hid (firstM k N hv ps = sprM (backM k N hv) (bytesP (ps.take k)) sz) := by show _ = _; unfold firstM; rw [hsz]
            obtain ⟨pl, ql, rfl⟩ := seq_shape HML.out
            clear hR HT
            go_wp2_with fail
            refine Calls.mono (cspread_any vt _ (backM k N hv) (bytesP (ps.take k)) sz _ HMT.out HML.out (by rw [HBL.out]; exact HT4.out) HBR.out (by rw [HBL.out]; exact hK1) (by rw [HT3.out]; omega) (by rw [HBL.out]; omega) hszb) ?_
            rintro e w5 ⟨v, rfl, hm, hk5⟩
            have HM5 := Lib.hid hm
            have HK5 : Hid (Keeps w w5) := ((kal w _).trans HKR.out).trans hk5
            clear hm hk5
            go_wp2_with fail
            go_ret2
            exact ⟨_, by rw [HEV2.out]; rfl, (fun _ => by rw [HFM.out]; exact MatIn.mono HM5.out fun b hb => Nat.le_trans ((kal w (.cells #[.int .i64 (k : Int), .int .i64 (N : Int)] 23)).trans HKR.out).size hb), HK5.out⟩
end Go.Proofs.YtllfhaocdknejaaDoor
/- The walks of strings.Builder's methods that write, whose third way the loader has cut (the shelf's own contracts don't fit there): after the shelf's worked proofs, turned to this program. -/
namespace Go.Proofs.YtllfhaocdknejaaDoor
open Go.RowKit
/-- Block b is a strings.Builder that holds these bytes; its row lies in a block from B on. -/
def Bld (B b : Nat) (l : List UInt8) (w : World) : Prop := Lib.IsBuilderF 76 5 B b (Lib.byteCells l) w
theorem Bld.new (w : World) : Bld w.heap.size w.heap.size [] (w.alloc (.cells #[.pointer none, .slice none 0 0] 76)) := Lib.IsBuilderF.of (Lib.fresh_isBuilder 76 5 w)
theorem Bld.lt {B b : Nat} {l : List UInt8} {w : World} (h : Bld B b l w) : b < w.heap.size := h.elim (·.lt) (·.lt)
theorem Bld.le {B b : Nat} {l : List UInt8} {w : World} (h : Bld B b l w) : B ≤ b := h.elim (·.1) (·.1)
theorem Bld.alloc {B b : Nat} {l : List UInt8} {w : World} (h : Bld B b l w) (o : Obj) : Bld B b l (w.alloc o) := Lib.IsBuilderF.alloc h o
/-- What a builder's writing keeps. -/
def BKept (B b : Nat) (w w' : World) : Prop := Below B w w' ∧ Lib.OthersKept 5 (some b) w w'
theorem BKept.trans {B b : Nat} {u v w : World} (h : BKept B b u v) (k : BKept B b v w) : BKept B b u w := ⟨h.1.trans k.1, h.2.trans k.2⟩
theorem BKept.size {B b : Nat} {w w' : World} (h : BKept B b w w') : w.heap.size ≤ w'.heap.size := h.1.size
theorem BKept.keeps {b : Nat} {w w' : World} (h : BKept w.heap.size b w w') : Keeps w w' := h.1.kept
/-- A block that is no row of bytes stands. -/
theorem BKept.chg {B b : Nat} {w w' : World} (h : BKept B b w w') : Chg (fun k => B ≤ k ∧ (k = b ∨ typH w.heap k = some 5)) w w' := by
  refine ⟨h.1.os, h.1.tape, h.1.output, h.1.size, fun k hk ht => ?_⟩
  by_cases hB : B ≤ k
  · have hb : k ≠ b := fun e => ht ⟨hB, .inl e⟩
    have he : typH w.heap k ≠ some 5 := fun e => ht ⟨hB, .inr e⟩
    obtain ⟨o, ho⟩ : ∃ o, w.heap[k]? = some o := ⟨w.heap[k], Array.getElem?_eq_getElem hk⟩
    rw [ho]
    refine h.2 k o ho (fun e => hb (Option.some.inj e)) fun c fz e => he ?_
    unfold typH; rw [ho, e]
  · exact h.1.block k (by omega)
theorem infoByte : (Tryd.prog.info? 5).map (fun i => (i.zero, i.size, i.bytes)) = some (some (.int .u8 0), 1, 1) := by kernel_rfl
theorem sizeBld : (Tryd.prog.info? 76).map (·.size) = some 2 := by kernel_rfl

set_option maxHeartbeats 1000000 in
set_option maxRecDepth 100000 in
theorem copycheck_any (B b : Nat) (bs : List Value) (w : World) (h : Lib.IsBuilderF 76 5 B b bs w) :
    Calls Tryd.prog 53 #[.pointer (some ⟨b, 0, none⟩)] w fun e w' => e = .returned (.tuple #[]) ∧ (Lib.BuilderAtF 76 5 B b (.pointer (some ⟨b, 0, none⟩)) bs w' ∧ Below B w w' ∧ Lib.OthersKept 5 (some b) w w') := by
  obtain ⟨j, hj, hjs⟩ := Option.map_eq_some_iff.1 sizeBld
  rcases h with h | h
  · have h0 := h.cell0
    have hsh := h.shape
    have hfz := h.frozen0
    go_enter Tryd.func53, Tryd.ntmps53
    go_wp2
    rw [Lib.run_to_unsafe w ⟨b, 0, none⟩ Tryd.underlying74 Tryd.underlying106 hj (by rw [hjs]; decide) hsh (Nat.zero_lt_succ 1)]
    simp only [Result.andThen]
    rw [Oper.upon_value]
    go_wp2
    rw [run_callFunc_extern Tryd.func68 (by kernel_rfl) (by kernel_rfl) (by kernel_rfl) (e := Extern.AbiNoEscape.same) (by kernel_rfl)]
    rw [Lib.run_noEscape]
    simp only [Result.andThen]
    rw [Oper.upon_value]
    go_wp2
    rw [Lib.run_from_unsafe w ⟨b, 0, none⟩ Tryd.underlying106 Tryd.underlying74 hj hsh (by kernel_rfl)]
    simp only [Result.andThen]
    rw [Oper.upon_value]
    go_wp2
    go_end0
    exact ⟨rfl, h.used _, (Below.refl B w).setCell (p := ⟨b, 0, none⟩) h.1 _, (Lib.OthersKept.refl _ _ w).setCell ⟨b, 0, none⟩ rfl _⟩
  · have h0 := h.cell0
    go_enter Tryd.func53, Tryd.ntmps53
    go_wp2
    rw [Lib.run_neq_ptr_same w _ Tryd.underlying74 hj]
    go_wp2
    go_end0
    exact ⟨rfl, h, Below.refl B _, Lib.OthersKept.refl _ _ _⟩
set_option maxHeartbeats 2000000 in
set_option maxRecDepth 100000 in
theorem wrow_any (B b : Nat) (l r : List UInt8) (g off c : Nat) (w : World) (h : Bld B b l w) (hr : ∀ w1, Below B w w1 → RowAt w1.heap (.slice (some ⟨g, off, none⟩) r.length c) r) (hlen : l.length + r.length ≤ 140737488355328) (hBw : B ≤ w.heap.size) :
    Calls Tryd.prog 39 #[.pointer (some ⟨b, 0, none⟩), .slice (some ⟨g, off, none⟩) r.length c] w fun e w' => e = .returned (.tuple #[.int .i64 (r.length : Int), .nilIface]) ∧ Bld B b (l ++ r) w' ∧ BKept B b w w' := by
  obtain ⟨i0, hi, hz0, hz1, hz2⟩ := info_parts infoByte
  have HL := Lib.byteCells_length l
  have HN : Hid (Lib.byteCells (l ++ r) = Lib.byteCells l ++ bytesV r) := Lib.byteCells_append _ _
  have H : Hid (Lib.IsBuilderF 76 5 B b (Lib.byteCells l) w) := h
  have HG : Hid (∀ w', Lib.BuilderAtF 76 5 B b (.pointer (some ⟨b, 0, none⟩)) (Lib.byteCells l ++ bytesV r) w' → Bld B b (l ++ r) w') := fun w' h' => by unfold Bld; rw [HN.out]; exact Or.inr h'
  have HRA := Lib.hid hr
  rw [← HL] at hlen
  have HVL := Lib.hid (bytesV_length r)
  generalize Lib.byteCells l = bs at *
  clear h HL HN hr
  go_enter Tryd.func39, Tryd.ntmps39
  go_wp2_with fail
  refine Calls.mono (copycheck_any B b bs _ H.out) ?_
  rintro e w1 ⟨rfl, h1, hb1, hk1⟩
  obtain ⟨hB, v, hbk, hown, hne⟩ := h1
  have c0 : w1.cell? ⟨b, 0, none⟩ = some (.pointer (some ⟨b, 0, none⟩)) := by rw [Lib.cell_of_heap hbk]; rfl
  have c1 : w1.cell? ⟨b, 1, none⟩ = some v := by rw [Lib.cell_of_heap hbk]; rfl
  have hlt : b < w1.heap.size := by
    rcases Nat.lt_or_ge b w1.heap.size with h' | h'
    · exact h'
    · simp [Array.getElem?_eq_none h'] at hbk
  have HR1 := Lib.hid (HRA.out w1 hb1)
  have HBK := Lib.hid hbk
  have HOWN := Lib.hid hown
  have HNE := Lib.hid hne
  have HB1 := Lib.hid hb1
  have HK1 := Lib.hid hk1
  clear hbk hown hne hb1 hk1
  go_wp2_with (at_builtin; refine wpList_append_ownF _ rfl _ _ 39 rfl B 5 i0 (.int .u8 0) 1 1 Tryd.underlying39 hi hz0 hz1 hz2 rfl (by decide) _ _ _ rfl HOWN.out ⟨g, off, none⟩ r.length c (bytesV r) rfl ?c0 ?c1 ?c2 ?c3 ?c4 ?c5 ?_)
  case c0 => rw [HVL.out, Nat.mul_one]
  case c1 =>
    intro j u hj
    obtain ⟨hj1, hj2⟩ := List.getElem?_eq_some_iff.1 hj
    rw [← hj2]
    have hb := bytesV_at HR1.out j hj1
    cases j with
    | zero => simpa [Addr.add] using hb
    | succ j => simpa [Addr.add] using hb
  case c2 => exact bytesV_one r
  case c3 => unfold maxLen; omega
  case c4 => omega
  case c5 => have := HB1.out.size; omega
  intro v' w2 hown' hgrow _
  have hb2 : w2.heap[b]? = some (.cells #[.pointer (some ⟨b, 0, none⟩), v] 76 (0, 0)) := by
    rw [hgrow.block b hlt (fun e => HNE.out e.symm)]
    exact HBK.out
  have d0 : w2.cell? ⟨b, 0, none⟩ = some (.pointer (some ⟨b, 0, none⟩)) := by rw [Lib.cell_of_heap hb2]; rfl
  have d1 : w2.cell? ⟨b, 1, none⟩ = some v := by rw [Lib.cell_of_heap hb2]; rfl
  have f1 : w2.frozen? ⟨b, 1, none⟩ = false := Lib.frozen_of_heap hb2 1
  obtain ⟨ao, n', cap, rfl⟩ : ∃ ao n' cap, v' = .slice ao n' cap := by
    rcases hown'.2 with ⟨hv, _⟩ | ⟨g, cap, cur, fz, hv, _⟩
    · exact ⟨_, _, _, hv⟩
    · exact ⟨_, _, _, hv⟩
  have HO2 := Lib.hid hown'
  have HG2 := Lib.hid hgrow
  have HB2 := Lib.hid hb2
  clear hown' hgrow hb2
  go_wp2
  go_ret2
  refine ⟨rfl, HG.out _ ?_, ?_, (HK1.out.grown HG2.out (Lib.ownsRowF_kind HOWN.out)).setCell ⟨b, 1, none⟩ rfl _⟩
  · exact Lib.BuilderAtF.put (T := 76) (e := 5) hB HB2.out (bs' := bs ++ bytesV r) (by have := HO2.out; rwa [← HVL.out, ← List.length_append] at this) (by decide)
  · exact (HB1.out.grown HG2.out (by have := HB1.out.size; omega) (fun k hk => (HOWN.out.lt k hk).1)).setCell (p := ⟨b, 1, none⟩) hB _
/-- Its text. -/
theorem btext_any (B b : Nat) (l : List UInt8) (w : World) (h : Bld B b l w) (hBw : B ≤ w.heap.size) :
    Calls Tryd.prog 40 #[.pointer (some ⟨b, 0, none⟩)] w fun e w' => e = .returned (.string (strB l)) ∧ Bld B b l w' ∧ BKept B b w w' :=
  (Sh.Builder_String_any_k B b l w h hBw).mono fun _ _ ⟨h1, h2, h3, h4⟩ => ⟨h1, h2, h3, h4⟩
end Go.Proofs.YtllfhaocdknejaaDoor
/- The walk of code.blob: the blob of the first payloads, if there is one. -/
namespace Go.Proofs.YtllfhaocdknejaaDoor
open Go.RowKit
attribute [local go_sem ↓] Go.wp_at_zero Go.wp_at_succ
theorem index_at (W : List UInt8) (i : Nat) (h : i < W.length) (w : World) : (Instr.index 9 (.string (strB W)) (.int .i64 (i : Int))).run Tryd.prog w = .ok (.int .u8 ((W.getD i 0).toNat : Int)) w := by
  have hb : ((i : Int).toNat) = i := by omega
  have hs := strB_size W
  rw [run_index_string _ _ _ _ _ Tryd.underlying9, dif_pos ⟨by omega, by omega⟩]
  have e : ((strB W)[(i : Int).toNat]'(by omega)).toNat = (W.getD i 0).toNat := by
    rw [List.getD_eq_getElem?_getD, List.getElem?_eq_getElem h]; rfl
  rw [e]
theorem or_u64 (a b : Nat) (ha : a < 18446744073709551616) (hb : b < 18446744073709551616) : bits .or .u64 (a : Int) (b : Int) = ((a ||| b : Nat) : Int) :=
  bits_nat .or .u64 a b _ ha hb (· ||| ·) (fun x y => BitVec.toNat_or x y) rfl (IntWalk.u64_in _ (by have := Nat.or_lt_two_pow (n := 64) ha hb; omega))
theorem beN_bound (l : List UInt8) : beN l < 256 ^ l.length := by
  have h : ∀ (l : List UInt8) (a : Nat), l.foldl (fun a c => a * 256 + c.toNat) a < (a + 1) * 256 ^ l.length := by
    intro l
    induction l with
    | nil => intro a; simp
    | cons c l ih =>
      intro a
      refine Nat.lt_of_lt_of_le (ih (a * 256 + c.toNat)) ?_
      rw [List.length_cons, Nat.pow_succ, Nat.mul_comm (256 ^ l.length) 256, ← Nat.mul_assoc]
      exact Nat.mul_le_mul_right _ (by have := UInt8.toNat_lt c; omega)
  have := h l 0
  unfold beN
  simpa using this
theorem flat_take {L : List (List UInt8)} {k : Nat} (h : k < L.length) : (L.take (k + 1)).flatten = (L.take k).flatten ++ L[k] := by
  rw [List.take_succ_eq_append_getElem h, List.flatten_append]; simp
theorem flat_le {L : List (List UInt8)} {s k : Nat} (h : ∀ r ∈ L, r.length = s) (hk : k ≤ L.length) : (L.take k).flatten.length = s * k := by
  have := (flat_rows (L.take k) s fun r hr => h r (List.mem_of_mem_take hr)).1
  rw [this, List.length_take, Nat.min_eq_left hk]
/-- All noughts, and nothing is left of them. -/
theorem drop_nil (l : List UInt8) : l.dropWhile (· == 0) = [] ↔ (l.all fun x => x == 0) = true := by
  induction l with
  | nil => simp
  | cons a r ih =>
    rw [List.dropWhile_cons, List.all_cons]
    by_cases h : (a == 0) = true
    · rw [if_pos h, h, Bool.true_and]; exact ih
    · rw [if_neg h, Bool.eq_false_iff.2 h, Bool.false_and]; simp
theorem drop_all (l : List UInt8) (h : (l.all fun x => x == 0) = true) : l.reverse.dropWhile (· == 0) = [] := by
  rw [drop_nil, List.all_reverse]; exact h
theorem trim_zero (l : List UInt8) : (Lib.trimB l 0 = []) ↔ (l.all fun x => x == 0) = true := by
  unfold Lib.trimB Lib.trimLeftB Lib.trimRightB
  constructor
  · intro h
    rw [drop_nil, List.all_reverse] at h
    have h2 : l.reverse.dropWhile (· == 0) = [] := by
      generalize hr : l.reverse = r at *
      clear hr
      induction r with
      | nil => rfl
      | cons a q ih =>
        rw [List.dropWhile_cons] at h ⊢
        by_cases e : (a == 0) = true
        · rw [if_pos e] at h ⊢; exact ih h
        · rw [if_neg e] at h
          rw [List.all_cons] at h
          exact absurd (Bool.and_eq_true_iff.1 h).1 e
    rw [drop_nil, List.all_reverse] at h2
    exact h2
  · intro h
    rw [drop_all l h]; rfl
theorem slice_mid (W : List UInt8) (n : Nat) (h : 8 + n ≤ W.length) : ∀ wx : World, (Instr.slice 9 (.string (strB W)) (some (.int .i64 8)) (some (.int .i64 (8 + (n : Int)))) none).run Tryd.prog wx = .ok (.string (strB ((W.drop 8).take n))) wx := fun wx => by
  have hs := strB_size W
  rw [run_slice_string_if _ _ _ _ _ _ _ Tryd.underlying9, if_pos (by omega), if_pos (by omega), ext_both]
  have e : (8 + (n : Int)).toNat - (8 : Int).toNat = n := by omega
  rw [e]; rfl
theorem slice_end (W : List UInt8) (n : Nat) (h : 8 + n ≤ W.length) : ∀ wx : World, (Instr.slice 9 (.string (strB W)) (some (.int .i64 (8 + (n : Int)))) none none).run Tryd.prog wx = .ok (.string (strB (W.drop (8 + n)))) wx := fun wx => by
  have := str_back (strB W) (8 + n) (by rw [strB_size]; exact h) wx
  have e : ((8 + n : Nat) : Int) = 8 + (n : Int) := by omega
  rw [e] at this
  exact this
theorem blob_no {K s : Nat} {W : List UInt8} (h : ¬ (8 ≤ W.length ∧ beN (W.take 8) ≤ 32768 ∧ sizeN K (beN (W.take 8)) = s ∧ ((W.drop (8 + beN (W.take 8))).all fun x => x == 0) = true)) : blobL K s W = none := by
  unfold blobL; rw [if_neg h]
set_option maxRecDepth 100000 in
set_option maxHeartbeats 4000000 in
theorem blob_any (K N : Nat) (vl : Value) (L : List (List UInt8)) (s : Nat) (w : World) (hc : codeB K N = true) (hl : MatAt w.heap vl L) (hll : L.length = K) (h2 : ∀ r ∈ L, r.length = s) (hs : 1 ≤ s) (h6 : s ≤ 1000000) :
    Calls Tryd.prog 28 #[.agg #[.int .i64 (K : Int), .int .i64 (N : Int)], vl] w fun e w' => e = .returned (.tuple #[.string (strB ((blobL K s L.flatten).getD [])), .bool (blobL K s L.flatten).isSome]) ∧ Keeps w w' := by
  obtain ⟨h1, h3, h4⟩ := codeB_true.1 hc
  obtain ⟨pl, ql, rfl⟩ := seq_shape hl
  have HC0 : Hid (∀ wx, Keeps (w.alloc (.cells #[.int .i64 (K : Int), .int .i64 (N : Int)] 23)) wx → wx.cell? ⟨w.heap.size, 0, none⟩ = some (.int .i64 (K : Int)) ∧ wx.cell? ⟨w.heap.size, 1, none⟩ = some (.int .i64 (N : Int))) := fun wx hx => ⟨keeps_cell hx (World.cell?_alloc_new _ _ _ _), keeps_cell hx (World.cell?_alloc_new _ _ _ _)⟩
  have HK0 := Lib.hid (kal w (.cells #[.int .i64 (K : Int), .int .i64 (N : Int)] 23))
  have HLM := Lib.hid (MatAt.keeps hl HK0.out)
  have HLL := Lib.hid hll
  have HR2 := Lib.hid h2
  have HC := Lib.hid hc
  have HFL := Lib.hid (fun k hk => flat_le (L := L) (s := s) (k := k) h2 hk)
  have hs0 : (w.alloc (.cells #[.int .i64 (K : Int), .int .i64 (N : Int)] 23)).heap.size = w.heap.size + 1 := by simp
  have hlK : L.length ≤ 12 := by omega
  generalize hR : blobL K s L.flatten = R at *
  have HR := Lib.hid hR
  clear hl hll h2 hc hR
  go_enter Tryd.func28, Tryd.ntmps28
  go_wp2_with fail
  have HB0 : Hid (Bld (w.heap.size + 1) (w.heap.size + 1) [] ((w.alloc (.cells #[.int .i64 (K : Int), .int .i64 (N : Int)] 23)).alloc (.cells #[.pointer none, .slice none 0 0] 76))) := by
    have := Bld.new (w.alloc (.cells #[.int .i64 (K : Int), .int .i64 (N : Int)] 23))
    rw [hs0] at this; exact this
  have HK1 := Lib.hid (kal (w.alloc (.cells #[.int .i64 (K : Int), .int .i64 (N : Int)] 23)) (.cells #[.pointer none, .slice none 0 0] 76))
  go_loopw [16] (fun i wr => ∃ k : Nat, k ≤ L.length ∧ i = .int .i64 k ∧ Hid (Bld (w.heap.size + 1) (w.heap.size + 1) (L.take k).flatten wr) ∧ Hid (Keeps (w.alloc (.cells #[.int .i64 (K : Int), .int .i64 (N : Int)] 23)) wr)) (fun i _ => L.length - (intOf i).toNat)
  case atStart => exact ⟨0, by omega, rfl, HB0, HK1⟩
  case round =>
    obtain ⟨k, hk, rfl, hB, hK⟩ := hrel
    by_cases hlt : k < L.length
    · have hlt64 : (k : Int) < (L.length : Int) := by omega
      have hk0 : (0 : Int) ≤ (k : Int) := by omega
      obtain ⟨b, off, pr, qr, rfl, d1, r1⟩ := mat_rowQ HLM.out hlt
      have HRL : Hid (L[k].length = s) := HR2.out _ (List.getElem_mem hlt)
      have hrl : L[k].length = s := HRL.out
      have HFT := Lib.hid (flat_take hlt)
      have HFK := Lib.hid (HFL.out k (by omega))
      have hks : s * k ≤ 1000000 * 12 := Nat.mul_le_mul h6 (by omega)
      have HRA : Hid (∀ w1, Below (w.heap.size + 1) wr w1 → RowAt w1.heap (.slice pr L[k].length qr) L[k]) := fun w1 hb => SeqAt.keeps r1 (Kept.then hK.out hb.kept (by rw [hs0]; exact Nat.le_refl _))
      obtain ⟨g, go, rfl⟩ : ∃ g go, pr = some ⟨g, go, none⟩ := by
        obtain ⟨b, off, c, u, e, _⟩ := seq_cell r1 (i := 0) (by omega)
        injection e with e _ _
        exact ⟨_, _, e⟩
      have d2 := keeps_cell hK.out d1
      have hsz := hK.out.size
      rw [hs0] at hsz
      clear d1 r1 hrl
      generalize L[k] = r at *
      go_wp2_with fail
      refine Calls.mono (wrow_any _ _ _ r g go qr _ hB.out HRA.out (by rw [HFK.out, HRL.out]; omega) hsz) ?_
      rintro e w6 ⟨rfl, hb6, hk6⟩
      have HB6 := Lib.hid hb6
      have HK6 : Hid (Keeps (w.alloc (.cells #[.int .i64 (K : Int), .int .i64 (N : Int)] 23)) w6) := Kept.then hK.out hk6.1.kept (by rw [hs0]; exact Nat.le_refl _)
      clear hb6 hk6
      go_wp2_with fail
      exact ⟨⟨k + 1, by omega, by go_num, by rw [HFT.out]; exact HB6, HK6⟩, by simp [intOf]; omega⟩
    · obtain rfl : k = L.length := by omega
      rw [List.take_length] at hB
      have hsz := hK.out.size
      rw [hs0] at hsz
      have HWL := Lib.hid (HFL.out L.length (Nat.le_refl _))
      rw [List.take_length] at HWL
      have hwb : s * L.length ≤ 1000000 * 12 := Nat.mul_le_mul h6 (by omega)
      generalize L.flatten = W at *
      have hwl : W.length ≤ 12000000 := by have := HWL.out; omega
      go_wp2_with fail
      refine Calls.mono (btext_any _ _ W _ hB.out hsz) ?_
      rintro e w7 ⟨rfl, hb7, hk7⟩
      have HK7 : Hid (Keeps (w.alloc (.cells #[.int .i64 (K : Int), .int .i64 (N : Int)] 23)) w7) := Kept.then hK.out hk7.1.kept (by rw [hs0]; exact Nat.le_refl _)
      clear hb7 hk7 hB hK
      have HSZ := Lib.hid (strB_size W)
      have HIX := Lib.hid (index_at W)
      have HSD : Hid ((strB W).data.toList = W) := rfl
      have HSM := Lib.hid (fun n => slice_mid W n)
      have HSE := Lib.hid (fun n => slice_end W n)
      have HBN := Lib.hid (fun h => blob_no (K := K) (s := s) (W := W) h)
      have HRD := HR.out
      unfold blobL at HRD
      have HRD := Lib.hid HRD
      generalize hSW : strB W = S at *
      have HSW := Lib.hid hSW
      clear hSW
      by_cases h8 : W.length < 8
      · have HRN : Hid (R = none) := by show _ = _; rw [← HR.out]; exact HBN.out (fun h => by omega)
        have s8 : S.size < 8 := by rw [HSZ.out]; exact h8
        have s8' : (S.size : Int) < 8 := by omega
        go_wp2_with fail
        go_ret2
        exact ⟨by rw [HRN.out]; rfl, HK0.out.trans HK7.out⟩
      · have s8 : ¬ S.size < 8 := by rw [HSZ.out]; exact h8
        have s8' : ¬ (S.size : Int) < 8 := by omega
        have ssz : S.size ≤ 12000000 := by rw [HSZ.out]; exact hwl
        go_wp2_with fail
        go_loopw [10, 11, 27] (fun n _ i wr => ∃ k : Nat, k ≤ 8 ∧ i = .int .i64 k ∧ n = .int .u64 (beN (W.take k) : Int) ∧ w7 = wr) (fun _ _ i _ => 8 - (intOf i).toNat)
        case atStart => exact ⟨0, by omega, rfl, rfl, rfl⟩
        case round =>
          obtain ⟨k, hk, rfl, rfl, rfl⟩ := hrel
          by_cases hlt : k < 8
          · have hlt64 : (k : Int) < 8 := by omega
            have hk0 : (0 : Int) ≤ (k : Int) := by omega
            have HXI := Lib.hid (HIX.out k (by omega))
            have hxi := HXI.out
            have HT : Hid (beN (W.take (k + 1)) = beN (W.take k) * 256 + (W.getD k 0).toNat) := by
              show _ = _
              rw [List.take_succ_eq_append_getElem (by omega), beN_snoc, List.getD_eq_getElem?_getD, List.getElem?_eq_getElem (by omega)]; rfl
            have hbl : beN (W.take k) < 72057594037927936 := by
              have h1 := beN_bound (W.take k)
              have h2 : (W.take k).length ≤ 7 := by rw [List.length_take]; omega
              have h3 : 256 ^ (W.take k).length ≤ 256 ^ 7 := Nat.pow_le_pow_right (by decide) h2
              omega
            have hb8 := UInt8.toNat_lt (W.getD k 0)
            generalize beN (W.take k) = x at *
            generalize (W.getD k 0).toNat = y at *
            have HO : Hid (bits .or .u64 ((x : Int) * 256) (y : Int) = ((x * 256 + y : Nat) : Int)) := by
              show _ = _
              have e1 : (x : Int) * 256 = ((x * 256 : Nat) : Int) := by omega
              rw [e1, or_u64 _ _ (by omega) (by omega)]
              have e2 : x * 256 ||| y = x * 256 + y := by
                have := Nat.two_pow_add_eq_or_of_lt (i := 8) (b := y) (by omega) x
                rw [Nat.mul_comm x 256]; exact this.symm
              rw [e2]
            go_wp2_with fail
            rw [HO.out]
            exact ⟨⟨k + 1, by omega, by go_num, by rw [HT.out], by first | rfl | trivial⟩, by simp [intOf]; omega⟩
          · obtain rfl : k = 8 := by omega
            generalize hn : beN (W.take 8) = n at *
            have HN := Lib.hid hn
            obtain ⟨c0, c1⟩ := HC0.out _ HK7.out
            by_cases hbig : 32768 < n
            · have HRN : Hid (R = none) := by show _ = _; rw [← HR.out]; exact HBN.out (fun h => by omega)
              have hb64 : (32768 : Int) < (n : Int) := by omega
              go_wp2_with fail
              go_ret2
              exact ⟨by rw [HRN.out]; rfl, HK0.out.trans HK7.out⟩
            · have hb64 : ¬ (32768 : Int) < (n : Int) := by omega
              have HSZC := Lib.hid (sizeC_yes (K := K) (m := n) HC.out (by omega))
              go_wp2_with fail
              refine Calls.mono (csize_any _ _ _ _ (by omega) (by omega)) ?_
              rintro e w8 ⟨rfl, hk8⟩
              rw [HSZC.out]
              have HK8 := Lib.hid (HK7.out.trans hk8)
              clear hk8 c0 c1
              have hl0 : 0 < L.length := by have := HLL.out; omega
              obtain ⟨b, off, pr, qr, rfl, d1, r1⟩ := mat_rowQ (MatAt.keeps HLM.out HK8.out) (i := 0) hl0
              have HRL : Hid ((L[0]'hl0).length = s) := HR2.out _ (List.getElem_mem _)
              rw [HRL.out] at d1
              have h0l : (0 : Int) < (L.length : Int) := by omega
              rw [Nat.add_zero] at d1
              clear r1
              generalize hz : sizeN K n = z at *
              have HZ := Lib.hid hz
              by_cases hzs : z = s
              · have hz1 : (z != s) = false := by rw [bne_eq_false_iff_eq]; exact hzs
                have hz2 : ((z : Int) != (s : Int)) = false := by rw [bne_eq_false_iff_eq]; omega
                have hle : 8 + n ≤ W.length := by
                  have h1 := (sizeN_mul (K := K) (m := n) (by omega)).1
                  rw [HWL.out, HLL.out, ← hzs, ← hz]; exact h1
                have hse := HSE.out n hle
                have hsm := HSM.out n hle
                have HTR := Lib.hid (fun wx : World => Sh.strings_Trim_one (strB (W.drop (8 + n))) 0 (by decide) wx (by rw [strB_size, List.length_drop]; omega))
                have HTZ := Lib.hid (trim_zero (W.drop (8 + n)))
                subst hzs
                go_wp2_with fail
                refine Calls.mono (HTR.out _) ?_
                rintro e w9 ⟨rfl, hw9⟩
                have HK9 : Hid (Keeps (w.alloc (.cells #[.int .i64 (K : Int), .int .i64 (N : Int)] 23)) w9) := by
                  rcases hw9 with rfl | rfl
                  · exact HK8.out
                  · exact HK8.out
                clear hw9 HTR
                have HDT : Hid ((strB (W.drop (8 + n))).data.toList = W.drop (8 + n)) := rfl
                rw [HDT.out]
                by_cases hall : ((W.drop (8 + n)).all fun x => x == 0) = true
                · have HRS : Hid (R = some ((W.drop 8).take n)) := by show _ = _; rw [← HRD.out]; exact if_pos ⟨by omega, by omega, trivial, hall⟩
                  rw [HTZ.out.2 hall]
                  clear d1
                  go_wp2_with fail
                  go_ret2
                  exact ⟨by rw [HRS.out]; rfl, HK0.out.trans HK9.out⟩
                · have HRN : Hid (R = none) := by show _ = _; rw [← HR.out]; exact HBN.out (fun h => hall h.2.2.2)
                  have HTN := Lib.hid (fun h => hall (HTZ.out.1 h))
                  generalize Lib.trimB (W.drop (8 + n)) 0 = T at *
                  have hte : T.isEmpty = false := by
                    cases T with
                    | nil => exact (HTN.out rfl).elim
                    | cons a r => rfl
                  go_wp2_with fail
                  go_ret2
                  exact ⟨by rw [HRN.out]; rfl, HK0.out.trans HK9.out⟩
              · have HRN : Hid (R = none) := by show _ = _; rw [← HR.out]; exact HBN.out (fun h => hzs h.2.2.1)
                have hz1 : (z != s) = true := by rw [bne_iff_ne]; exact hzs
                have hz2 : ((z : Int) != (s : Int)) = true := by rw [bne_iff_ne]; omega
                go_wp2_with fail
                go_ret2
                exact ⟨by rw [HRN.out]; rfl, HK0.out.trans HK8.out⟩
end Go.Proofs.YtllfhaocdknejaaDoor
/- A loop over a map from numbers to payloads: what is still to come, as a function of the number. -/
namespace Go.Proofs.YtllfhaocdknejaaDoor
open Go.RowKit Go.Maps Go.WideMaps
/-- Block r goes over the map in block B; `left` says which numbers are still to come. -/
def HeldG (w : World) (B r : Nat) (f : Int → Option ByteArray) (left : Int → Bool) (cnt : Nat) : Prop :=
  ∃ n D lf, w.ranges Tryd.prog 3 heldR B r n D lf cnt ∧ (∀ x, lf (.int .i64 x) = left x) ∧ (∀ x, has D (.int .i64 x) = (f x).isSome) ∧ (∀ x, left x = true → (f x).isSome = true) ∧ ∀ x s, f x = some s → ∀ z, D.atKey (.int .i64 x) z = heldD s
theorem HeldG.left_eq {w : World} {B r : Nat} {f : Int → Option ByteArray} {left : Int → Bool} {cnt : Nat} (h : HeldG w B r f left cnt) : w.rangeLeft B r = cnt := let ⟨_, _, _, h, _⟩ := h; h.left_eq
theorem keeps_grown {w w' : World} (k : Keeps w w') : w.grownBy w' none := ⟨k.1, k.2.1, k.2.2.1, k.2.2.2.1, fun i hi _ => k.2.2.2.2 i hi⟩
theorem HeldG.keeps {w w' : World} {B r : Nat} {f : Int → Option ByteArray} {left : Int → Bool} {cnt : Nat} (h : HeldG w B r f left cnt) (k : Keeps w w') : HeldG w' B r f left cnt := by
  obtain ⟨n, D, lf, h, h2⟩ := h
  exact ⟨n, D, lf, h.kept (keeps_grown k) (by simp) (by simp), h2⟩
theorem grown_keeps {w w' : World} (g : w.grownBy w' none) : Keeps w w' := ⟨g.os, g.tape, g.output, g.size, fun k hk => g.block k hk (by simp)⟩
theorem keeps_turn {w5 wr w' : World} {r : Nat} (hr : w5.heap.size ≤ r) (h : Keeps w5 wr) (c : wr.grownBy w' (some r)) : Keeps w5 w' :=
  ⟨c.os.trans h.1, c.tape.trans h.2.1, c.output.trans h.2.2.1, Nat.le_trans h.size c.size, fun k hk => (c.block k (Nat.lt_of_lt_of_le hk h.size) (fun e => by have := Option.some.inj e; omega)).trans (h.2.2.2.2 k hk)⟩
section
variable {w : World} {ops : Array Oper} {rest : List Oper} {o : Oper} {a : Act} {Q : Exit → Act → World → Prop}
/-- 'range m' -/
theorem wp_held_range (hg : o.guard = none) (m : Operand) (hop : o.op = Op.range 56 m) (B n : Nat) (f : Int → Option ByteArray) (hm : a.eval m = .map (some B)) (h : HeldM w B n f)
    (hK : ∀ w' cnt, HeldG w' B w.heap.size f (fun x => (f x).isSome) cnt → Keeps w w' → w'.heap.size = w.heap.size + 1 → wpList Tryd.prog ops Q rest (a.put o.dst (.pointer (some ⟨w.heap.size, 0, none⟩))) w') : wpList Tryd.prog ops Q (o :: rest) a w := by
  obtain ⟨D, hown, hD, hsz, hhas, hat⟩ := h
  refine wpList_range_own w hg m 56 hop 3 64 heldKey Tryd.underlying56 heldR B n D hm hown fun w' h1 h2 h3 => ?_
  exact hK w' _ ⟨n, D, _, h1, hhas, hhas, fun x hx => hx, hat⟩ (grown_keeps h2) h3
/-- The loop's step. -/
theorem wp_held_next (hg : o.guard = none) (it : Operand) (hop : o.op = Op.next it false) (B r : Nat) (f : Int → Option ByteArray) (left : Int → Bool) (cnt : Nat) (hit : a.eval it = .pointer (some ⟨r, 0, none⟩)) (h : HeldG w B r f left cnt)
    (hDone : (∀ x, left x = false) → wpList Tryd.prog ops Q rest (a.put o.dst (.tuple #[.bool false])) w)
    (hMore : ∀ (x : Int) (s : ByteArray) (w' : World) (cnt' : Nat), f x = some s → left x = true → HeldG w' B r f (fun y => left y && !decide (y = x)) cnt' → cnt' < cnt → w.grownBy w' (some r) → w'.heap.size = w.heap.size →
      (Instr.entry (.pointer (some ⟨r, 0, none⟩))).run Tryd.prog w' = .ok (.tuple #[.int .i64 x, .agg #[.string s]]) w' → wpList Tryd.prog ops Q rest (a.put o.dst (.tuple #[.bool true, .int .i64 x, .agg #[.string s]])) w') : wpList Tryd.prog ops Q (o :: rest) a w := by
  obtain ⟨n, D, lf, hr, hl, hhas, hls, hat⟩ := h
  refine wpList_next_ranges w hg it hop 3 heldKey heldR (Value.int .i64) (fun s : ByteArray => .agg #[.string s]) (fun key kl hkey => by obtain ⟨x, rfl, _⟩ := Maps.keyOf_int_inv Tryd.underlying3 hkey; exact ⟨x, rfl⟩) (fun v y hv => by obtain ⟨s, e, _⟩ := heldR_inv hv; exact ⟨s, e⟩)
    B r n D lf cnt hit hr (fun _ hd => hDone fun x => by rw [← hl]; exact hd _) fun x c kl y w' cnt' hkey hlk hv hat' hrg hlt hgr hsz hen => ?_
  obtain ⟨x', e1, rfl, hwx⟩ := Maps.keyOf_int_inv Tryd.underlying3 hkey
  cases e1
  obtain ⟨s, e2, e3⟩ := heldR_inv hv
  have e2 : c = s := by simpa using e2
  subst e2
  have hlx : left x = true := by rw [← hl]; exact hlk
  obtain ⟨t, ht⟩ := Option.isSome_iff_exists.1 (hls x hlx)
  have hst : t = c := heldD_inj (by rw [← hat x t ht (heldD t), hat' (heldD t), e3])
  subst hst
  refine hMore x t w' cnt' ht hlx ⟨n, D, _, hrg, fun z => ?_, hhas, fun z hz => ?_, hat⟩ hlt hgr hsz hen
  · show (lf (.int .i64 z) && !(decide (IntKind.i64 = IntKind.i64 ∧ z = x))) = _
    rw [hl]; simp
  · exact hls z (by simp at hz; exact hz.1)
end
theorem held_mem {hv : List Int} {ps : List ByteArray} {x : Int} {s : ByteArray} (h : heldF hv ps x = some s) : (x, s) ∈ hv.zip ps := by
  unfold heldF at h
  generalize hv.zip ps = l at *
  induction l with
  | nil => cases h
  | cons a r ih =>
    obtain ⟨y, t⟩ := a
    rw [List.lookup_cons] at h
    cases e : x == y with
    | true => rw [e] at h; cases h; rw [eq_of_beq e]; simp
    | false => rw [e] at h; exact List.mem_cons_of_mem _ (ih h)
theorem held_of {hv : List Int} (hn : hv.Nodup) {ps : List ByteArray} {x : Int} {s : ByteArray} (h : (x, s) ∈ hv.zip ps) : heldF hv ps x = some s := by
  unfold heldF
  induction hv generalizing ps with
  | nil => simp at h
  | cons a r ih =>
    cases ps with
    | nil => simp at h
    | cons p q =>
      rw [List.zip_cons_cons] at h ⊢
      rw [List.nodup_cons] at hn
      rcases List.mem_cons.1 h with h | h
      · cases h; simp
      · have hx := (List.of_mem_zip h).1
        have : x ≠ a := fun e => hn.1 (e ▸ hx)
        rw [List.lookup_cons, show (x == a) = false by simp [this]]
        exact ih hn.2 h
end Go.Proofs.YtllfhaocdknejaaDoor
/- The walk of code.found: the blob of payloads, and all that it has. -/
namespace Go.Proofs.YtllfhaocdknejaaDoor
open Go.RowKit
attribute [local go_sem ↓] Go.wp_at_zero Go.wp_at_succ
/-- The payloads' error: none, or that they are no blob's. -/
def decE (D : Option (List UInt8)) : Int := if D.isSome then 0 else 4
theorem hand_ok {k n : Int} {hv : List Int} {m : Nat} (h : handE k n hv m = 0) : codeB k n = true ∧ hv.length = m ∧ goodH n hv = true ∧ k ≤ hv.length := by
  unfold handE at h
  split at h
  · rename_i h1
    rw [Bool.and_eq_true, decide_eq_true_iff] at h1
    split at h
    · rename_i h2
      split at h
      · cases h
      · rename_i h3; exact ⟨h1.1, h1.2, h2, by omega⟩
    · cases h
  · cases h
theorem dec_data {K N : Nat} {hv : List Int} {ps : List ByteArray} (hK : 1 ≤ K) (hKN : K ≤ N) (hN : N ≤ 12) (hg : goodH (N : Int) hv = true) (hl : hv.length = ps.length) (hk : K ≤ hv.length) {d : List UInt8} (h : decD K N hv ps = some d) :
    sprM (matOf N K (codeAt K)) (firstM K N hv ps) (sizeP ps) = encM K N d := by
  obtain ⟨e1, e2, _⟩ := first_data hK hKN hN hg hl hk ((haveB_iff hl).1 (fits_dec hK hl hk h).2)
  rw [e1, e2]; rfl
theorem have_iff {M : List (List UInt8)} {hv : List Int} {ps : List ByteArray} : haveB M hv ps = true ↔ ∀ x s, (x, s) ∈ hv.zip ps → strB (M.getD x.toNat []) = s := by
  unfold haveB
  rw [List.all_eq_true]
  exact ⟨fun h x s hx => of_decide_eq_true (h (x, s) hx), fun h p hp => decide_eq_true (h p.1 p.2 hp)⟩
set_option maxRecDepth 100000 in
set_option maxHeartbeats 4000000 in
theorem found_ok (K N : Nat) (vh vp : Value) (hv : List Int) (ps : List ByteArray) (w : World) (hE : handE K N hv ps.length = 0) (hps : ∀ p ∈ ps, p.size ≤ 1000000) (hi : ∀ x ∈ hv, inI x) (hh : SeqAt IsInt w.heap vh hv) (hp : TextsAt w.heap vp ps) (ch : CapOk vh) (cp : CapOk vp) :
    Calls Tryd.prog 16 #[.agg #[.int .i64 (K : Int), .int .i64 (N : Int)], vh, vp] w fun e w' => ∃ v, e = .returned (.tuple #[.string (strB ((decD K N hv ps).getD [])), v, .int .i64 (decE (decD K N hv ps))]) ∧ ((decD K N hv ps).isSome = true → GotT (w.heap.size ≤ ·) w' v ((encM K N ((decD K N hv ps).getD [])).map strB)) ∧ Keeps w w' := by
  obtain ⟨hc, hl, hg, hkv⟩ := hand_ok hE
  obtain ⟨h1, h3, h4⟩ := codeB_true.1 hc
  have hK1 : 1 ≤ K := by omega
  have hKN : K ≤ N := by omega
  have hN12 : N ≤ 12 := by omega
  have hkv' : K ≤ hv.length := by omega
  have HC0 : Hid (∀ wx, Keeps (w.alloc (.cells #[.int .i64 (K : Int), .int .i64 (N : Int)] 23)) wx → wx.cell? ⟨w.heap.size, 0, none⟩ = some (.int .i64 (K : Int)) ∧ wx.cell? ⟨w.heap.size, 1, none⟩ = some (.int .i64 (N : Int))) := fun wx hx => ⟨keeps_cell hx (World.cell?_alloc_new _ _ _ _), keeps_cell hx (World.cell?_alloc_new _ _ _ _)⟩
  have HK0 := Lib.hid (kal w (.cells #[.int .i64 (K : Int), .int .i64 (N : Int)] 23))
  have HH := Lib.hid (SeqAt.keeps hh HK0.out)
  have HP := Lib.hid (SeqAt.keeps hp HK0.out)
  have HC := Lib.hid hc
  have HDD : Hid (∀ d, decD K N hv ps = some d → sprM (matOf N K (codeAt K)) (firstM K N hv ps) (sizeP ps) = encM K N d) := fun d h => dec_data hK1 hKN hN12 hg hl hkv' h
  have HFL := Lib.hid (first_len (K := K) (N := N) (hv := hv) (ps := ps) hkv')
  have HHN : Hid (∀ wx, Keeps (w.alloc (.cells #[.int .i64 (K : Int), .int .i64 (N : Int)] 23)) wx → Calls Tryd.prog 26 #[.agg #[.int .i64 (K : Int), .int .i64 (N : Int)], vh, vp] wx (GiveHand wx K N hv ps)) := fun wx hx => hand_any K N vh vp hv ps wx (SeqAt.keeps HH.out hx) (SeqAt.keeps HP.out hx) hi
  have HFS : Hid (∀ wx, Keeps (w.alloc (.cells #[.int .i64 (K : Int), .int .i64 (N : Int)] 23)) wx → Calls Tryd.prog 27 #[.agg #[.int .i64 (K : Int), .int .i64 (N : Int)], vh, vp] wx fun e w' => ∃ v, e = .returned (.tuple #[v, .bool (evenP ps && decide (sizeP ps ≠ 0))]) ∧ ((evenP ps && decide (sizeP ps ≠ 0)) = true → MatIn (wx.heap.size ≤ ·) w'.heap v (firstM K N hv ps)) ∧ Keeps wx w') := fun wx hx => first_any K N vh vp hv ps wx hc hg hl hkv' hps (SeqAt.keeps HH.out hx) (SeqAt.keeps HP.out hx) ch cp
  have HE := Lib.hid hE
  have HGI : Hid (∀ x ∈ hv, 0 ≤ x ∧ x < (N : Int)) := (goodH_iff.1 hg).1
  have HND : Hid hv.Nodup := (goodH_iff.1 hg).2
  have HZ : Hid (sizeP ps ≤ 1000000) := by
    show _ ≤ _
    rw [size_head (ps := ps) (by omega)]
    exact hps _ (List.getElem_mem _)
  have HD1 : Hid ((evenP ps && decide (sizeP ps ≠ 0)) = false → decD K N hv ps = none) := fun h => by unfold decD; rw [h]; rfl
  have HD2 : Hid ((evenP ps && decide (sizeP ps ≠ 0)) = true → blobL K (sizeP ps) (firstM K N hv ps).flatten = none → decD K N hv ps = none) := fun h h' => by unfold decD; rw [h, if_pos rfl, h']
  have HD3 : Hid (∀ d, (evenP ps && decide (sizeP ps ≠ 0)) = true → blobL K (sizeP ps) (firstM K N hv ps).flatten = some d → haveB (sprM (matOf N K (codeAt K)) (firstM K N hv ps) (sizeP ps)) hv ps = true → decD K N hv ps = some d) := fun d h h' h2 => by
    unfold decD; rw [h, if_pos rfl, h']
    simp only []
    rw [if_pos h2]
  have HD4 : Hid (∀ d, (evenP ps && decide (sizeP ps ≠ 0)) = true → blobL K (sizeP ps) (firstM K N hv ps).flatten = some d → haveB (sprM (matOf N K (codeAt K)) (firstM K N hv ps) (sizeP ps)) hv ps = false → decD K N hv ps = none) := fun d h h' h2 => by
    unfold decD; rw [h, if_pos rfl, h']
    simp only []
    rw [h2]; rfl
  have HS1 : Hid ((evenP ps && decide (sizeP ps ≠ 0)) = true → 1 ≤ sizeP ps) := fun h => by
    have := of_decide_eq_true (Bool.and_eq_true_iff.1 h).2; omega
  generalize decD K N hv ps = D at *
  generalize hfl : (evenP ps && decide (sizeP ps ≠ 0)) = fl at *
  generalize firstM K N hv ps = L at *
  generalize sizeP ps = s at *
  clear hh hp hc hE hi hps hg hfl
  go_enter Tryd.func16, Tryd.ntmps16
  go_wp2_with fail
  refine Calls.mono (HHN.out _ (keeps_refl _)) ?_
  rintro e w1 ⟨vm, rfl, hm, hk1⟩
  rw [HE.out]
  obtain ⟨B, hB0, rfl, hM⟩ := hm HE.out
  have HM1 := Lib.hid hM
  have HK1 := Lib.hid hk1
  obtain ⟨c0, c1⟩ := HC0.out _ hk1
  clear hm hM hk1
  go_wp2_with fail
  refine Calls.mono (HFS.out _ HK1.out) ?_
  rintro e w2 ⟨vl, rfl, hm, hk2⟩
  have HML := Lib.hid hm
  have HK2 := Lib.hid (HK1.out.trans hk2)
  have HM2 := Lib.hid (HM1.out.keeps hk2)
  obtain ⟨c0, c1⟩ := HC0.out _ HK2.out
  clear hm hk2
  cases hfl : fl with
  | false =>
    have HDN := Lib.hid (HD1.out hfl)
    subst hfl
    go_wp2_with fail
    go_ret3
    exact ⟨_, by rw [HDN.out]; rfl, (fun h => absurd (HDN.out ▸ h) (by decide)), HK0.out.trans HK2.out⟩
  | true =>
    have hflh := hfl
    subst hflh
    have HLM := Lib.hid (HML.out (by first | rfl | trivial))
    have HSP := Lib.hid (HS1.out (by first | rfl | trivial))
    go_wp2_with fail
    refine Calls.mono (blob_any K N vl L s _ HC.out (MatIn.at_ HLM.out) HFL.out.1 HFL.out.2 HSP.out HZ.out) ?_
    rintro e w3 ⟨rfl, hk3⟩
    have HK3 := Lib.hid (HK2.out.trans hk3)
    have HM3 := Lib.hid (HM2.out.keeps hk3)
    have HL3 := Lib.hid (MatAt.keeps (MatIn.at_ HLM.out) hk3)
    obtain ⟨c0, c1⟩ := HC0.out _ HK3.out
    clear hk3
    cases hbl : blobL K s L.flatten with
    | none =>
      have HDN := Lib.hid (HD2.out (by first | rfl | trivial) hbl)
      go_wp2_with fail
      go_ret3
      exact ⟨_, by rw [HDN.out]; rfl, (fun h => absurd (HDN.out ▸ h) (by decide)), HK0.out.trans HK3.out⟩
    | some d =>
      have HD5 := Lib.hid (HD3.out d (by first | rfl | trivial) hbl)
      have HD6 := Lib.hid (HD4.out d (by first | rfl | trivial) hbl)
      have hrd : (some d).getD [] = d := rfl
      rw [hrd]
      go_wp2_with fail
      refine Calls.mono (callG_any K N vl L s _ HC.out HL3.out HFL.out.1 HFL.out.2 HZ.out) ?_
      rintro e w4 ⟨vw, rfl, hw, hk4⟩
      have HW4 := Lib.hid hw
      have HK4 := Lib.hid (HK3.out.trans hk4)
      have HM4 := Lib.hid (HM3.out.keeps hk4)
      have HLW : Hid (((sprM (matOf N K (codeAt K)) L s).map strB).length = N) := by show _ = _; rw [List.length_map, sprM_len, matOf_len]
      clear hw hk4 c0 c1
      generalize hMM : sprM (matOf N K (codeAt K)) L s = M at *
      obtain ⟨pw, qw, rfl⟩ := seq_shape (SeqIn.at_ HW4.out.1)
      rw [HLW.out] at HW4 ⊢
      go_wp2_with (at_range; refine wp_held_range rfl (.tmp 47) rfl B _ _ rfl HM4.out ?_; intro w5 cnt5 hg5 hk5 hs5; have HG5 := Lib.hid hg5; have HK5 := Lib.hid hk5; clear hg5 hk5)
      have HHV : Hid (∀ x t, heldF hv ps x = some t → 0 ≤ x ∧ x < (N : Int)) := fun x t h => HGI.out x (List.of_mem_zip (held_mem h)).1
      go_frame
      go_loopw [15] (fun _ wr => ∃ left cnt, Hid (HeldG wr B w4.heap.size (heldF hv ps) left cnt) ∧ Hid (Keeps w4 wr) ∧ Hid (∀ x t, heldF hv ps x = some t → left x = false → strB (M.getD x.toNat []) = t)) (fun _ wr => wr.rangeLeft B w4.heap.size)
      case atStart => exact ⟨_, _, HG5, HK5, fun x t h h' => by rw [h] at h'; cases h'⟩
      case round =>
        obtain ⟨left, cnt, hG, hK, hI⟩ := hrel
        go_wp2_with (at_next; refine wp_held_next rfl (.tmp 48) rfl B w4.heap.size (heldF hv ps) left cnt rfl hG.out ?_ ?_)
        · intro hdone
          have HHB := Lib.hid (have_iff.2 fun x t h => hI.out x t (held_of HND.out h) (hdone x))
          have HDS := Lib.hid (HD5.out HHB.out)
          have HDE := Lib.hid (HDD.out d HDS.out)
          have HKE := Lib.hid ((HK0.out.trans HK4.out).trans hK.out)
          have HWE : Hid (GotT (w.heap.size ≤ ·) wr (.slice pw N qw) (M.map strB)) := GotT.mono (HW4.out.keeps hK.out) fun b hb => Nat.le_trans (HK0.out.trans HK3.out).size hb
          clear hdone
          go_wp2
          go_ret3
          exact ⟨_, by rw [HDS.out]; rfl, (fun _ => by rw [HDS.out]; show GotT _ _ _ ((encM K N d).map strB); rw [← HDE.out]; exact HWE.out), HKE.out⟩
        · intro x t w6 cnt6 hfx hlx hg6 hlt hgr hsz hen
          obtain ⟨x0, x1⟩ := HHV.out x t hfx
          obtain ⟨xn, rfl⟩ := Int.eq_ofNat_of_zero_le x0
          have hxn : xn < N := by omega
          have hk6 := keeps_turn (Nat.le_refl _) hK.out hgr
          have hlm : xn < (M.map strB).length := by rw [HLW.out]; exact hxn
          obtain ⟨b3, o3, rfl, d1⟩ := text_cellH (SeqAt.keeps (SeqIn.at_ HW4.out.1) hk6) hlm
          have HMG : Hid ((M.map strB)[xn] = strB (M.getD xn [])) := by
            show _ = _
            rw [List.getElem_map, List.getD_eq_getElem?_getD, List.getElem?_eq_getElem (by rw [List.length_map] at hlm; exact hlm)]; rfl
          rw [HMG.out] at d1
          have HG6 := Lib.hid hg6
          have HK6 := Lib.hid hk6
          have HFX := Lib.hid hfx
          have HEN := Lib.hid hen
          have HMQ : Hid (∀ z, M.getD xn [] = z → M.getD ((xn : Int)).toNat [] = z) := fun z h => by rw [Int.toNat_natCast]; exact h
          have d2 := keeps_cell (kal w6 (.cells #[.string t] 64)) d1
          have d3 : (w6.alloc (.cells #[.string t] 64)).cell? ⟨wr.heap.size, 0, none⟩ = some (.string t) := by rw [← hsz]; exact World.cell?_alloc_new _ _ _ _
          have x64 : (xn : Int) < (N : Int) := by omega
          clear hg6 hk6 hgr hfx hlx d1
          generalize hgg : strB (M.getD xn []) = g at *
          have HGG := Lib.hid hgg
          clear hgg
          by_cases heq : g = t
          · subst heq
            go_wp2_with fail
            go_quiet (fail)
            go_wp2
            have hkd : Keeps w6 ((w6.alloc (.cells #[.string g] 64)).drewN nq) := kal w6 (.cells #[.string g] 64)
            have hg7 := HG6.out.keeps hkd
            refine ⟨⟨_, _, hg7, HK6.out.trans hkd, fun y u hy hl7 => ?_⟩, ?_⟩
            · by_cases e : y = (xn : Int)
              · subst e
                have e2 : u = g := Option.some.inj (hy.symm.trans HFX.out)
                rw [HMQ.out _ rfl, HGG.out, e2]
              · refine hI.out y u hy ?_
                rw [decide_eq_false e] at hl7
                simpa using hl7
            · rw [hg7.left_eq, hG.out.left_eq]; exact hlt
          · have q1 : (g.toList == t.toList) = false := by rw [txt_eq]; exact decide_eq_false heq
            have q2 : (g.toList != t.toList) = true := by unfold bne; rw [q1]; rfl
            have HNO : Hid (haveB M hv ps = false) := by
              show _ = _
              rw [Bool.eq_false_iff]
              intro h
              have := have_iff.1 h _ _ (held_mem HFX.out)
              rw [HMQ.out _ rfl, HGG.out] at this
              exact heq this
            have HDN := Lib.hid (HD6.out HNO.out)
            go_wp2_with fail
            go_quiet (fail)
            go_wp2
            go_ret3
            exact ⟨_, by rw [HDN.out]; rfl, (fun h => absurd (HDN.out ▸ h) (by decide)), ((HK0.out.trans HK4.out).trans HK6.out).trans (kal w6 _)⟩
end Go.Proofs.YtllfhaocdknejaaDoor
/- The walks of code.Decode and code.Rebuild. -/
namespace Go.Proofs.YtllfhaocdknejaaDoor
open Go.RowKit
attribute [local go_sem ↓] Go.wp_at_zero Go.wp_at_succ
/-- The blob of payloads at hand, if they are one's. -/
def gotD (k n : Int) (hv : List Int) (ps : List ByteArray) : Option (List UInt8) := if handE k n hv ps.length = 0 then decD k.toNat n.toNat hv ps else none
/-- How payloads at hand are refused. -/
def errD (k n : Int) (hv : List Int) (ps : List ByteArray) : Int := if handE k n hv ps.length = 0 then decE (decD k.toNat n.toNat hv ps) else handE k n hv ps.length
theorem errD_zero {k n : Int} {hv : List Int} {ps : List ByteArray} : errD k n hv ps = 0 ↔ (gotD k n hv ps).isSome = true := by
  unfold errD gotD decE
  by_cases h : handE k n hv ps.length = 0
  · rw [if_pos h, if_pos h]
    cases decD k.toNat n.toNat hv ps <;> simp
  · rw [if_neg h, if_neg h]; simp [h]
/-- How a payload is refused, and it. -/
def rebD (k n : Int) (hv : List Int) (ps : List ByteArray) (i : Int) : ByteArray × Int :=
  if codeB k n && decide (0 ≤ i ∧ i < n) then (if errD k n hv ps = 0 then (strB ((encM k.toNat n.toNat ((gotD k n hv ps).getD [])).getD i.toNat []), 0) else (⟨#[]⟩, errD k n hv ps)) else (⟨#[]⟩, 1)
theorem found_any (k n : Int) (vh vp : Value) (hv : List Int) (ps : List ByteArray) (w : World) (hps : ∀ p ∈ ps, p.size ≤ 1000000) (hi : ∀ x ∈ hv, inI x) (hh : SeqAt IsInt w.heap vh hv) (hp : TextsAt w.heap vp ps) (ch : CapOk vh) (cp : CapOk vp) :
    Calls Tryd.prog 16 #[.agg #[.int .i64 k, .int .i64 n], vh, vp] w fun e w' => ∃ v, e = .returned (.tuple #[.string (strB ((gotD k n hv ps).getD [])), v, .int .i64 (errD k n hv ps)]) ∧ (errD k n hv ps = 0 → GotT (w.heap.size ≤ ·) w' v ((encM k.toNat n.toNat ((gotD k n hv ps).getD [])).map strB)) ∧ Keeps w w' := by
  by_cases h : handE k n hv ps.length = 0
  · have hb := (hand_ok h).1
    obtain ⟨g1, g2, g3⟩ := codeB_true.1 hb
    obtain ⟨K, rfl⟩ := Int.eq_ofNat_of_zero_le (show 0 ≤ k by omega)
    obtain ⟨N, rfl⟩ := Int.eq_ofNat_of_zero_le (show 0 ≤ n by omega)
    refine (found_ok K N vh vp hv ps w h hps hi hh hp ch cp).mono ?_
    rintro e w' ⟨v, rfl, hg, hk⟩
    have e1 : gotD (K : Int) (N : Int) hv ps = decD K N hv ps := by unfold gotD; rw [if_pos h]; rfl
    have e2 : errD (K : Int) (N : Int) hv ps = decE (decD K N hv ps) := by unfold errD; rw [if_pos h]; rfl
    rw [e1, e2]
    refine ⟨v, rfl, fun h0 => hg ?_, hk⟩
    unfold decE at h0
    cases hd : decD K N hv ps with
    | none => rw [hd] at h0; cases h0
    | some d => rfl
  · refine (found_err k n vh vp hv ps w _ hh hp hi rfl h).mono ?_
    rintro e w' ⟨rfl, hk⟩
    have e1 : gotD k n hv ps = none := by unfold gotD; rw [if_neg h]
    have e2 : errD k n hv ps = handE k n hv ps.length := by unfold errD; rw [if_neg h]
    rw [e1, e2]
    exact ⟨_, rfl, fun h0 => absurd h0 h, hk⟩
set_option maxRecDepth 100000 in
set_option maxHeartbeats 4000000 in
theorem decode_any (k n : Int) (vh vp : Value) (hv : List Int) (ps : List ByteArray) (w : World) (hps : ∀ p ∈ ps, p.size ≤ 1000000) (hi : ∀ x ∈ hv, inI x) (hh : SeqAt IsInt w.heap vh hv) (hp : TextsAt w.heap vp ps) (ch : CapOk vh) (cp : CapOk vp) :
    Calls Tryd.prog 9 #[.agg #[.int .i64 k, .int .i64 n], vh, vp] w fun e w' => e = .returned (.tuple #[.string (strB ((gotD k n hv ps).getD [])), .int .i64 (errD k n hv ps)]) ∧ Keeps w w' := by
  have HFD := Lib.hid (fun wx (hx : Keeps (w.alloc (.cells #[.int .i64 k, .int .i64 n] 23)) wx) => found_any k n vh vp hv ps wx hps hi (SeqAt.keeps hh ((kal w _).trans hx)) (SeqAt.keeps hp ((kal w _).trans hx)) ch cp)
  clear hh hp hi hps
  generalize errD k n hv ps = E at *
  generalize gotD k n hv ps = D at *
  go_enter Tryd.func9, Tryd.ntmps9
  go_wp2_with fail
  refine Calls.mono (HFD.out _ (keeps_refl _)) ?_
  rintro e w1 ⟨v, rfl, _, hk1⟩
  have HK1 : Hid (Keeps w w1) := (kal w _).trans hk1
  clear hk1
  go_wp2_with fail
  go_ret2
  exact ⟨rfl, HK1.out⟩
set_option maxRecDepth 100000 in
set_option maxHeartbeats 4000000 in
theorem rebuild_any (k n : Int) (vh vp : Value) (hv : List Int) (ps : List ByteArray) (i : Int) (w : World) (hps : ∀ p ∈ ps, p.size ≤ 1000000) (hi : ∀ x ∈ hv, inI x) (hh : SeqAt IsInt w.heap vh hv) (hp : TextsAt w.heap vp ps) (ch : CapOk vh) (cp : CapOk vp) :
    Calls Tryd.prog 11 #[.agg #[.int .i64 k, .int .i64 n], vh, vp, .int .i64 i] w fun e w' => e = .returned (.tuple #[.string (rebD k n hv ps i).1, .int .i64 (rebD k n hv ps i).2]) ∧ Keeps w w' := by
  have HFD := Lib.hid (fun wx (hx : Keeps (w.alloc (.cells #[.int .i64 k, .int .i64 n] 23)) wx) => found_any k n vh vp hv ps wx hps hi (SeqAt.keeps hh ((kal w _).trans hx)) (SeqAt.keeps hp ((kal w _).trans hx)) ch cp)
  have HC0 : Hid (∀ wx, Keeps (w.alloc (.cells #[.int .i64 k, .int .i64 n] 23)) wx → wx.cell? ⟨w.heap.size, 0, none⟩ = some (.int .i64 k) ∧ wx.cell? ⟨w.heap.size, 1, none⟩ = some (.int .i64 n)) := fun wx hx => ⟨keeps_cell hx (World.cell?_alloc_new _ _ _ _), keeps_cell hx (World.cell?_alloc_new _ _ _ _)⟩
  have HR1 : Hid ((codeB k n && decide (0 ≤ i ∧ i < n)) = false → rebD k n hv ps i = (⟨#[]⟩, 1)) := fun h => by unfold rebD; rw [h]; rfl
  have HR2 : Hid ((codeB k n && decide (0 ≤ i ∧ i < n)) = true → errD k n hv ps ≠ 0 → rebD k n hv ps i = (⟨#[]⟩, errD k n hv ps)) := fun h h' => by unfold rebD; rw [h, if_pos rfl, if_neg h']
  have HR3 : Hid ((codeB k n && decide (0 ≤ i ∧ i < n)) = true → errD k n hv ps = 0 → rebD k n hv ps i = (strB ((encM k.toNat n.toNat ((gotD k n hv ps).getD [])).getD i.toNat []), 0)) := fun h h' => by unfold rebD; rw [h, if_pos rfl, if_pos h']
  clear hh hp hi hps
  generalize errD k n hv ps = E at *
  generalize gotD k n hv ps = D at *
  generalize rebD k n hv ps i = R at *
  by_cases hok : codeB k n = true ∧ 0 ≤ i ∧ i < n
  · obtain ⟨hb, i0, i1⟩ := hok
    have HOK : Hid ((codeB k n && decide (0 ≤ i ∧ i < n)) = true) := by show _ = _; rw [hb, decide_eq_true ⟨i0, i1⟩]; rfl
    have HB := Lib.hid hb
    obtain ⟨g1, g2, g3⟩ := codeB_true.1 hb
    clear hb
    go_enter Tryd.func11, Tryd.ntmps11
    go_wp2_with fail
    refine Calls.mono (maycode_any k n _) ?_
    rintro e w1 ⟨rfl, hk1⟩
    rw [HB.out]
    obtain ⟨c0, c1⟩ := HC0.out _ hk1
    have HK1 := Lib.hid hk1
    clear hk1
    go_wp2_with fail
    refine Calls.mono (HFD.out _ HK1.out) ?_
    rintro e w2 ⟨v, rfl, hg, hk2⟩
    have HK2 : Hid (Keeps w w2) := ((kal w _).trans HK1.out).trans hk2
    have HG := Lib.hid hg
    clear hk2 hg
    by_cases hE : E = 0
    · have HRE := Lib.hid (HR3.out HOK.out hE)
      have HGT := Lib.hid (HG.out hE)
      subst hE
      obtain ⟨xn, rfl⟩ := Int.eq_ofNat_of_zero_le i0
      obtain ⟨pv, qv, rfl⟩ := seq_shape (SeqIn.at_ HGT.out.1)
      have HLW : Hid (((encM k.toNat n.toNat (D.getD [])).map strB).length = n.toNat) := by show _ = _; rw [List.length_map, encM_len]
      have hlm : xn < ((encM k.toNat n.toNat (D.getD [])).map strB).length := by rw [HLW.out]; omega
      obtain ⟨b3, o3, rfl, d1⟩ := text_cellH (SeqIn.at_ HGT.out.1) hlm
      have HMG : Hid (((encM k.toNat n.toNat (D.getD [])).map strB)[xn] = strB ((encM k.toNat n.toNat (D.getD [])).getD xn [])) := by
        show _ = _
        rw [List.getElem_map, List.getD_eq_getElem?_getD, List.getElem?_eq_getElem (by rw [List.length_map] at hlm; exact hlm)]; rfl
      rw [HMG.out] at d1
      have hl64 : (xn : Int) < (n.toNat : Int) := by omega
      have hl65 : xn < n.toNat := by omega
      rw [HLW.out]
      clear HMG hlm
      have HRS : Hid (R.1 = strB ((encM k.toNat n.toNat (D.getD [])).getD xn [])) := by show _ = _; rw [HRE.out]; rfl
      rw [← HRS.out] at d1
      have HR0 : Hid (R.2 = 0) := by show _ = _; rw [HRE.out]
      go_wp2_with fail
      go_ret2
      exact ⟨by rw [HR0.out]; rfl, HK2.out⟩
    · have HRE := Lib.hid (HR2.out HOK.out hE)
      have q1 : (E != 0) = true := bne_iff_ne.2 hE
      clear hE
      go_wp2_with fail
      go_ret2
      exact ⟨by rw [HRE.out]; rfl, HK2.out⟩
  · have HRE : Hid (R = (⟨#[]⟩, 1)) := HR1.out (by
      cases h : codeB k n with
      | false => rfl
      | true => exact decide_eq_false fun h2 => hok ⟨h, h2⟩)
    cases hb : codeB k n with
    | false =>
      have HB := Lib.hid hb
      clear hb hok
      go_enter Tryd.func11, Tryd.ntmps11
      go_wp2_with fail
      refine Calls.mono (maycode_any k n _) ?_
      rintro e w1 ⟨rfl, hk1⟩
      rw [HB.out]
      have HK1 := Lib.hid hk1
      clear hk1
      go_wp2_with fail
      go_ret2
      exact ⟨by rw [HRE.out]; rfl, (kal w _).trans HK1.out⟩
    | true =>
      have HB := Lib.hid hb
      by_cases i0 : i < 0
      · clear hb hok
        go_enter Tryd.func11, Tryd.ntmps11
        go_wp2_with fail
        refine Calls.mono (maycode_any k n _) ?_
        rintro e w1 ⟨rfl, hk1⟩
        rw [HB.out]
        have HK1 := Lib.hid hk1
        clear hk1
        go_wp2_with fail
        go_ret2
        exact ⟨by rw [HRE.out]; rfl, (kal w _).trans HK1.out⟩
      · have i1 : n ≤ i := by
          rcases Int.lt_or_le i n with h | h
          · exact absurd ⟨hb, by omega, h⟩ hok
          · exact h
        clear hb hok
        go_enter Tryd.func11, Tryd.ntmps11
        go_wp2_with fail
        refine Calls.mono (maycode_any k n _) ?_
        rintro e w1 ⟨rfl, hk1⟩
        rw [HB.out]
        obtain ⟨c0, c1⟩ := HC0.out _ hk1
        have HK1 := Lib.hid hk1
        clear hk1
        go_wp2_with fail
        go_ret2
        exact ⟨by rw [HRE.out]; rfl, (kal w _).trans HK1.out⟩
end Go.Proofs.YtllfhaocdknejaaDoor
