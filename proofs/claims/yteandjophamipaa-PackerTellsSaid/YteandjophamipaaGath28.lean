/- The walk of packer.Gather. -/
import Derived.Test.YteandjophamipaaGEnd
import Derived.Test.YteandjophamipaaIdxT
import Derived.Test.YteandjophamipaaCnt
namespace Go.Proofs.Yteandjophamipaa
open Go.RowKit Go.Maps
attribute [local go_sem ↓] Go.wp_at_zero Go.wp_at_succ
/-- What Gather tells. -/
def GivePacks (E : TypeId) (w : World) (l : List ByteArray) (e : Ending) (w' : World) : Prop :=
  ∃ v, (if badG l then v = .slice none 0 0 ∧ e = .returned (.tuple #[v, .int .i64 4]) else e = .returned (.tuple #[v, .int .i64 0]) ∧ RecIn (w.heap.size ≤ ·) E 4 (IsPack (w.heap.size ≤ ·) w'.heap) w'.heap v (gath l)) ∧ Keeps w w'
def badC (c : ByteArray) : Bool := decide (c.size = 0) || decide (16384 < c.size)
theorem badG_any (l : List ByteArray) : badG l = l.any badC := rfl
/-- A call of a function that has a body enters it. -/
theorem enters_bodyT {f : FuncId} {fn : Func} {c : Code} (hf : Try.prog.funcs[f]? = some fn) (hname : (fn.name == "runtime.NumGoroutine") = false) (hb : fn.body = some c) (xs : Array Value) (w : World) :
    (callFunc f xs).run Try.prog w = .ok (.enter f xs) w := by
  have h1 : fn.name ≠ "runtime.NumGoroutine" := by simpa using hname
  simp [callFunc, hf, h1, hb, mark]
theorem enters_g1 (xs : Array Value) (w : World) : (callFunc 45 xs).run Try.prog w = .ok (.enter 45 xs) w := enters_bodyT Try.func45 (by kernel_rfl) rfl xs w
theorem enters_g2 (xs : Array Value) (w : World) : (callFunc 46 xs).run Try.prog w = .ok (.enter 46 xs) w := enters_bodyT Try.func46 (by kernel_rfl) rfl xs w
set_option maxHeartbeats 1000000 in
theorem gbad_any (s : ByteArray) (w : World) : Calls Try.prog 45 (#[.string s] ++ #[]) w fun e w' => e = .returned (.bool (badC s)) ∧ Keeps w w' := by
  by_cases h0 : s.size = 0
  · have hb : badC s = true := by unfold badC; rw [decide_eq_true h0]; rfl
    have hs : s = ⟨#[]⟩ := by
      cases s with | mk d => have : d.size = 0 := h0; simp at this; rw [this]
    subst hs
    rw [hb]
    clear h0 hb
    go_enter Try.func45, Try.ntmps45
    go_wp2
    go_ret
    exact ⟨rfl, keeps_refl _⟩
  · have hb : badC s = decide (16384 < (s.size : Int)) := by unfold badC; rw [decide_eq_false h0]; simp; omega
    have e1 : (s.toList == []) = false := by
      rw [beq_eq_false_iff_ne]
      intro e
      have := congrArg List.length e
      rw [toList_eq, data_size] at this
      exact h0 this
    have e2 : s.toList.isEmpty = false := by
      rw [List.isEmpty_eq_false_iff]; intro e; rw [e] at e1; simp at e1
    rw [hb]
    clear h0 hb
    go_enter Try.func45, Try.ntmps45
    go_wp2
    go_ret
    exact ⟨rfl, keeps_refl _⟩
/-- How often a text stands among the first k. -/
def cntF (l : List ByteArray) (k : Nat) (s : ByteArray) : Int := (((l.take k).filter fun x => decide (x = s)).length : Nat)
theorem cntF_succ {l : List ByteArray} {k : Nat} (h : k < l.length) (s : ByteArray) : cntF l (k + 1) s = if s = atP l k then cntF l k (atP l k) + 1 else cntF l k s := by
  unfold cntF
  rw [take_snoc h, List.filter_append]
  by_cases e : s = atP l k
  · subst e; simp
  · rw [if_neg e]
    have : (decide (atP l k = s)) = false := decide_eq_false fun x => e x.symm
    simp [this]
theorem cntF_has {l : List ByteArray} {k : Nat} (s : ByteArray) : hasT (l.take k) s = decide (1 < cntF l k s + 1) := by
  rw [Bool.eq_iff_iff, decide_eq_true_eq, hasT_iff]
  unfold cntF
  constructor
  · intro h
    have : 0 < ((l.take k).filter fun x => decide (x = s)).length := List.length_pos_iff.2 fun e => by
      have := List.filter_eq_nil_iff.1 e s h
      simp at this
    omega
  · intro h
    have : 0 < ((l.take k).filter fun x => decide (x = s)).length := by omega
    obtain ⟨x, hx⟩ := List.exists_mem_of_length_pos this
    rw [List.mem_filter] at hx
    rw [← of_decide_eq_true hx.2]; exact hx.1
theorem cntF_le {l : List ByteArray} {k : Nat} (s : ByteArray) : 0 ≤ cntF l k s ∧ cntF l k s ≤ k := by
  unfold cntF
  have := List.length_filter_le (fun x => decide (x = s)) (l.take k)
  have := List.length_take_le k l
  omega
theorem CntM.past {w w6 : World} {B n m base k : Nat} {f : ByteArray → Int} {E : TypeId} {v : Value} {us : List Value} {o : Obj} (h : CntM w B n f) (h0 : w.ownsRow base E k v m us) (hc : Chg (fun b => v.ownBlock = some b) (w.alloc o) w6) : CntM w6 B n f :=
  h.chg ((Kept.any (kal w o)).trans hc) fun e => by
    have h1 := (own_blockK h0 _ e).2.2
    rw [h.typ] at h1; cases h1
theorem ne_ss : (22 : TypeId) ≠ 9 := by decide
theorem gas_new (w w1 : World) (hk : Keeps w w1) : GaS w ((((w1.alloc (.cells #[.slice none 0 0] 38)).alloc (.cells #[.slice none 0 0] 22)).alloc (.cells #[.int .i64 0] 3)).alloc (.map #[] 0)) w1.heap.size (w1.heap.size + 1) (w1.heap.size + 1 + 1) (w1.heap.size + 1 + 1 + 1 + 1) (w1.heap.size + 1 + 1 + 1 + 1) [] [] 0 (.slice none 0 0) (.slice none 0 0) := by
  have e1 : (w1.alloc (.cells #[.slice none 0 0] 38)).heap.size = w1.heap.size + 1 := by simp
  have e2 : ((w1.alloc (.cells #[.slice none 0 0] 38)).alloc (.cells #[.slice none 0 0] 22)).heap.size = w1.heap.size + 1 + 1 := by simp
  refine ⟨((BlkAt.new w1 _ _).keeps (kal _ _)).keeps ((kal _ _).trans (kal _ _)), ?_, ?_, OwnPk.nil _ _ _ _, OwnSeq.nil _ _ _ _, ((hk.trans (kal _ _)).trans (kal _ _)).trans ((kal _ _).trans (kal _ _)), Nat.le_refl _, by simp⟩
  · have := ((BlkAt.new (w1.alloc (.cells #[.slice none 0 0] 38)) 22 #[.slice none 0 0]).keeps (kal _ (.cells #[.int .i64 0] 3))).keeps (kal _ (.map #[] 0))
    rwa [e1] at this
  · have := (BlkAt.new ((w1.alloc (.cells #[.slice none 0 0] 38)).alloc (.cells #[.slice none 0 0] 22)) 3 #[.int .i64 0]).keeps (kal _ (.map #[] 0))
    rwa [e2] at this
theorem cnt_new (w1 : World) : CntM ((((w1.alloc (.cells #[.slice none 0 0] 38)).alloc (.cells #[.slice none 0 0] 22)).alloc (.cells #[.int .i64 0] 3)).alloc (.map #[] 0)) (w1.heap.size + 1 + 1 + 1) 0 (fun _ => 0) := by
  have := CntM.new (((w1.alloc (.cells #[.slice none 0 0] 38)).alloc (.cells #[.slice none 0 0] 22)).alloc (.cells #[.int .i64 0] 3))
  simpa using this
/-- What Gather tells, and that packs share no memory. -/
def GivePk (E : TypeId) (w : World) (l : List ByteArray) (e : Ending) (w' : World) : Prop :=
  ∃ v, (if badG l then v = .slice none 0 0 ∧ e = .returned (.tuple #[v, .int .i64 4]) else e = .returned (.tuple #[v, .int .i64 0]) ∧ PacksIn w.heap.size w'.heap.size E w'.heap v (gath l)) ∧ Keeps w w'
theorem GivePk.weak {E : TypeId} {w : World} {l : List ByteArray} {e : Ending} {w' : World} (h : GivePk E w l e w') : GivePacks E w l e w' := by
  obtain ⟨v, h1, h2⟩ := h
  refine ⟨v, ?_, h2⟩
  cases hb : badG l with
  | true => rw [hb] at h1; exact h1
  | false =>
    rw [hb] at h1
    exact ⟨h1.1, RecIn.mono h1.2.recs (fun _ x => x) fun _ _ x => x.mono fun b hb => hb.1⟩
set_option maxRecDepth 100000 in
set_option maxHeartbeats 4000000 in
theorem gatherP_any (v : Value) (l : List ByteArray) (w : World) (h : TextsAt w.heap v l) (hl : l.length ≤ 100000) (ht : total l ≤ 1000000) : Calls Try.prog 28 #[v] w (GivePk 50 w l) := by
  obtain ⟨pv, qv, rfl⟩ := seq_shape h
  have H := Lib.hid h
  have HT := Lib.hid ht
  clear h ht
  have hcf1 := enters_g1
  have hcf2 := enters_g2
  have hmf : ∀ (fn : Fn) (first cap : Array Value) (w : World), (Instr.makeFunc fn first cap).run Try.prog w = .ok (.func fn first cap) w := fun _ _ _ _ => rfl
  have hmm := @run_makeMap Try.prog
  go_enter Try.func28, Try.ntmps28
  go_wp2_with fail
  refine Calls.mono (containsT_any _ l 45 #[] badC _ H.out enters_g1 (fun wx _ s _ => gbad_any s wx)) ?_
  rintro e w1 ⟨rfl, hk⟩
  have HK1 := Lib.hid hk
  clear hk
  rw [← badG_any]
  cases hb : badG l with
  | true =>
    have HBD := Lib.hid hb
    clear hb
    go_wp2_with fail
    go_ret2
    exact ⟨_, by rw [HBD.out]; exact ⟨rfl, rfl⟩, HK1.out⟩
  | false =>
    have HBD := Lib.hid hb
    have HG0 := Lib.hid (gas_new w w1 HK1.out)
    have HC0 := Lib.hid (cnt_new w1)
    have hsz1 := HK1.out.size
    have HGB : Hid (GaB w w1.heap.size (w1.heap.size + 1) (w1.heap.size + 1 + 1) (w1.heap.size + 1 + 1 + 1 + 1)) := ⟨by omega, by omega, by omega⟩
    clear hb HK1
    go_wp2_with fail
    generalize w1.heap.size = N1 at *
    go_loopw [17] (fun i wr => ∃ (k H : Nat) (vu vo : Value), k ≤ l.length ∧ i = .int .i64 k ∧ Hid (GaS w wr N1 (N1 + 1) (N1 + 1 + 1) (N1 + 1 + 1 + 1 + 1) H (gst l k).1 (gst l k).2 (total (gst l k).2 : Int) vu vo) ∧ Hid (CntM wr (N1 + 1 + 1 + 1) k (cntF l k))) (fun i _ => l.length - (intOf i).toNat)
    case atStart => exact ⟨0, _, _, _, by omega, rfl, HG0, HC0.out.congr fun s => by simp [cntF]⟩
    case round =>
      clear HG0 HC0
      obtain ⟨k, H9, vu, vo, hk, rfl, hG, hC⟩ := hrel
      by_cases hlt : k < l.length
      · have hlt64 : (k : Int) < (l.length : Int) := by omega
        have hk0 : (0 : Int) ≤ (k : Int) := by omega
        obtain ⟨b, off, cc, u, e5, d1, r1⟩ := seq_cell (SeqAt.keeps H.out hG.out.kp) hlt
        injection e5 with e6 e7 e8
        subst e6 e8
        unfold IsText at r1
        subst r1
        rw [← atP_get hlt] at d1
        have HSZ := Lib.hid (badG_at HBD.out hlt)
        have HGS := Lib.hid (gst_succ l k)
        have HCS := Lib.hid (fun s => cntF_succ hlt s)
        have HCH := Lib.hid (cntF_has (l := l) (k := k) (atP l k))
        have hcl := cntF_le (l := l) (k := k) (atP l k)
        have HGO := Lib.hid (fun h => gst_open HBD.out hk h)
        have HLE := Lib.hid (gst_le HBD.out hk)
        have hsz := HSZ.out.2
        have hsz1 := HSZ.out.1
        clear e7
        generalize atP l k = c at *
        generalize hcn : cntF l k c = cn at *
        have HCN := Lib.hid hcn
        clear hcn
        have hlz : c.size ≤ 9223372036854775807 := by omega
        have hclb : -9223372036854775808 ≤ cn + 1 ∧ cn + 1 ≤ 9223372036854775807 := by omega
        have HL1 := Lib.hid hl
        go_upto_region 12 with (first | (at_lookup; refine wp_cnt_look rfl (.tmp 21) (.tmp 22) rfl (N1 + 1 + 1 + 1) k (cntF l k) rfl hC.out c rfl hlz ?_; rw [HCN.out]) | (at_mapUpdate; refine wp_cnt_put rfl (.tmp 21) (.tmp 22) (.tmp 24) rfl (N1 + 1 + 1 + 1) k (cntF l k) rfl hC.out (by have := HL1.out; omega) c rfl hlz (cn + 1) rfl hclb ?_; intro w3 hC3 hch3))
        have HC3 : Hid (CntM w3 (N1 + 1 + 1 + 1) (k + 1) (cntF l (k + 1))) := hC3.congr fun s => by
          have h1 := HCS.out s
          rw [h1]
        have HG3 : Hid (GaS w w3 N1 (N1 + 1) (N1 + 1 + 1) (N1 + 1 + 1 + 1 + 1) H9 (gst l k).1 (gst l k).2 (total (gst l k).2 : Int) vu vo) := hG.out.chg hch3 (fun b e => by subst e; exact hC.out.typ) (chg_kept hch3 (fun b _ e => by omega) hG.out.kp.size)
        have HCN2 : Hid (cntF l (k + 1) c = cn + 1) := by have h1 := HCS.out c; rw [if_pos rfl] at h1; exact h1
        clear hC3 hch3 hG hC HCS HCN hcf1 hmm hmf d1
        cases hh : hasT (l.take k) c with
        | true =>
          have HE : Hid (gst l (k + 1) = gst l k) := by show _ = _; rw [HGS.out, hh]; rfl
          have h9 := HCH.out
          rw [hh] at h9
          have h8 : 1 < cn + 1 := of_decide_eq_true h9.symm
          have h7 : decide (1 < cn + 1) = true := h9.symm
          clear h9 hh HCH HGS
          rw [← HE.out] at HG3
          go_wp2_with (at_lookup; refine wp_cnt_look rfl (.tmp 25) (.tmp 26) rfl (N1 + 1 + 1 + 1) (k + 1) (cntF l (k + 1)) rfl HC3.out c rfl hlz ?_; rw [HCN2.out])
          exact ⟨⟨k + 1, _, _, _, by omega, by go_num, HG3, HC3⟩, by simp [intOf]; omega⟩
        | false =>
          have HE : Hid (gst l (k + 1) = stepG (gst l k) c) := by show _ = _; rw [HGS.out, hh]; rfl
          have h9 := HCH.out
          rw [hh] at h9
          have h8 : ¬ 1 < cn + 1 := of_decide_eq_false h9.symm
          have h7 : decide (1 < cn + 1) = false := h9.symm
          have HGT := Lib.hid (gst_total (l := l) (k := k) hk)
          have htt : total (gst l k).2 ≤ 1000000 := Nat.le_trans HGT.out HT.out
          clear h9 hh HCH HGS
          generalize hst : gst l k = st at *
          clear hst
          obtain ⟨out, opn⟩ := st
          simp only [] at HG3 HGO HLE htt
          have cs3 : w3.cell? ⟨N1 + 1 + 1, 0, none⟩ = some (.int .i64 (total opn : Int)) := HG3.out.cs.cell rfl
          have hlo := HLE.out.1
          go_upto_if 33 with (at_lookup; refine wp_cnt_look rfl (.tmp 25) (.tmp 26) rfl (N1 + 1 + 1 + 1) (k + 1) (cntF l (k + 1)) rfl HC3.out c rfl hlz ?_; rw [HCN2.out])
          go_cut [] (fun wz => ∃ (H' : Nat) (vu' vo' : Value) (out' : List (List ByteArray)) (opn' : List ByteArray), Hid (GaS w wz N1 (N1 + 1) (N1 + 1 + 1) (N1 + 1 + 1 + 1 + 1) H' out' opn' (total opn' : Int) vu' vo') ∧ Hid (CntM wz (N1 + 1 + 1 + 1) (k + 1) (cntF l (k + 1))) ∧ Hid (gst l (k + 1) = (out', opn' ++ [c])) ∧ opn'.length ≤ k ∧ total opn' ≤ 1000000)
          case first =>
            by_cases hbig : 4096 < total opn + c.size
            · have j1 : decide (4096 < (total opn : Int) + (c.size : Int)) = true := decide_eq_true (by omega)
              have j2 : 4096 < (total opn : Int) + (c.size : Int) := by omega
              have HST : Hid (gst l (k + 1) = (shutG (out, opn), [] ++ [c])) := by show _ = _; rw [HE.out]; unfold stepG; rw [if_pos hbig]; rfl
              have HM0 : Hid (opn = [] ∨ mayP opn = true) := by
                by_cases e : opn = []
                · exact .inl e
                · exact .inr (HGO.out e)
              go_wp2_with fail
              refine Calls.mono (gend_any HG3.out HGB.out HM0.out (by omega)) ?_
              rintro e w4 ⟨rfl, ⟨vu', hg4⟩, hc4⟩
              have HC4 := Lib.hid (HC3.out.chg hc4 fun x => x HC3.out.typ)
              clear hc4
              go_wp2_with fail
              go_meet
              exact ⟨_, vu', _, _, [], hg4, HC4, HST, by simp, by simp [total]⟩
            · have j1 : decide (4096 < (total opn : Int) + (c.size : Int)) = false := decide_eq_false (by omega)
              have j2 : ¬ 4096 < (total opn : Int) + (c.size : Int) := by omega
              have HST : Hid (gst l (k + 1) = (out, opn ++ [c])) := by show _ = _; rw [HE.out]; unfold stepG; rw [if_neg hbig]
              go_wp2_with fail
              go_meet
              exact ⟨_, _, _, _, _, HG3, HC3, HST, HLE.out.2, htt⟩
          case rest =>
            obtain ⟨H', vu', vo', out', opn', HG, HC, HST, hol, hot⟩ := hcut
            obtain ⟨wx, rfl⟩ : ∃ wx : World, wx = wc := ⟨_, rfl⟩
            clear HG3 HC3 HE HGO HLE cs3
            obtain ⟨us, hu1, hu2, hu3⟩ := HG.out.oo
            obtain ⟨po, qo, rfl⟩ := own_slice hu1
            have HU := Lib.hid hu1
            have HL2 := Lib.hid hu2
            have H3 := Lib.hid hu3
            have hul : us.length ≤ 100000 := by omega
            have c2 : wx.cell? ⟨N1 + 1, 0, none⟩ = some (.slice po us.length qo) := HG.out.co.cell rfl
            have hwz := HG.out.hw
            have HTC : Hid ((total (opn' ++ [c]) : Int) = (total opn' : Int) + (c.size : Int)) := by show _ = _; rw [total_snoc]; omega
            clear hu1 hu2 hu3
            go_wp2_with (at_builtin; refine wp_app1 elText rfl (.tmp 36) (.tmp 38) rfl H' (.slice po us.length qo) us rfl (HU.out.alloc _) _ (.string c) rfl (World.cell?_alloc_new _ _ _ _) rfl (by omega) (by simp; omega) ?_; intro v' w6 hown hchg; have HB6 := Lib.hid (BlkAt.past (HG.out.keeps (kal wx _)).co (HU.out.alloc _) ne_ss hchg); have c6 : w6.cell? ⟨N1 + 1, 0, none⟩ = some (.slice po us.length qo) := HB6.out.cell rfl; have f6 := HB6.out.froz 0; obtain ⟨pv, qv, rfl⟩ := own_slice hown; have HG7 := Lib.hid (GaS.push HG.out HGB.out HU.out HL2.out H3.out (kal wx _) hown hchg); have HC7 := Lib.hid (CntM.past HC.out HU.out hchg); have c7 : (w6.setCell ⟨N1 + 1, 0, none⟩ (.slice pv (us.length + 1) qv)).cell? ⟨N1 + 1 + 1, 0, none⟩ = some (.int .i64 (total opn' : Int)) := HG7.out.cs.cell rfl; have f7 := HG7.out.cs.froz 0; clear hown hchg)
            have HG8 := Lib.hid (HG7.out.size HGB.out ((total opn' : Int) + (c.size : Int)))
            have HC8 := Lib.hid ((HC7.out.chg (chg_set _ (N1 + 1) 0 (.slice pv (us.length + 1) qv)) (by omega)).chg (chg_set _ (N1 + 1 + 1) 0 (.int .i64 ((total opn' : Int) + (c.size : Int)))) (by omega))
            refine ⟨⟨k + 1, H', vu', .slice pv (us.length + 1) qv, by omega, by go_num, ?_, HC8⟩, by simp [intOf]; omega⟩
            rw [HST.out]
            show Hid (GaS _ _ _ _ _ _ _ _ _ (total (opn' ++ [c]) : Int) _ _)
            rw [HTC.out]
            exact HG8
      · obtain rfl : k = l.length := by omega
        have HM0 : Hid ((gst l l.length).2 = [] ∨ mayP (gst l l.length).2 = true) := by
          by_cases e : (gst l l.length).2 = []
          · exact .inl e
          · exact .inr (gst_open HBD.out (Nat.le_refl _) e)
        have hle := (gst_le HBD.out (Nat.le_refl l.length)).1
        have HSH : Hid (shutG ((gst l l.length).1, (gst l l.length).2) = gath l) := rfl
        clear hcf1 hmm hmf
        go_wp2_with fail
        refine Calls.mono (gend_any hG.out HGB.out HM0.out (by omega)) ?_
        rintro e w4 ⟨rfl, ⟨vu', hg4⟩, hc4⟩
        rw [HSH.out] at hg4
        have HG4 := Lib.hid hg4
        have c4 : w4.cell? ⟨N1, 0, none⟩ = some vu' := hg4.cu.cell rfl
        clear hg4 hc4 hG hC HM0 hle
        go_wp2_with fail
        go_ret2
        have hlo := HGB.out.lu
        have hle2 := (gath_len l HBD.out)
        exact ⟨vu', by rw [HBD.out]; exact ⟨rfl, (HG4.out.ou.seq (by omega)).grow (by omega) (Nat.le_trans (Nat.le_of_eq rfl) HG4.out.hw)⟩, HG4.out.kp⟩
theorem gather_any (v : Value) (l : List ByteArray) (w : World) (h : TextsAt w.heap v l) (hl : l.length ≤ 100000) (ht : total l ≤ 1000000) : Calls Try.prog 28 #[v] w (GivePacks 50 w l) :=
  (gatherP_any v l w h hl ht).mono fun _ _ x => x.weak
end Go.Proofs.Yteandjophamipaa
