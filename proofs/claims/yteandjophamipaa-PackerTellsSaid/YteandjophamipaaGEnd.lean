/- The state while chunks are gathered; the walk of packer.Gather's function that shuts a pack. -/
import Derived.Test.YteandjophamipaaGPk
namespace Go.Proofs.Yteandjophamipaa
open Go.RowKit
attribute [local go_sem ↓] Go.wp_at_zero Go.wp_at_succ
/-- The state while chunks are gathered: the packs, the open chunks, their bytes; each in a block of its own. -/
structure GaS (w wr : World) (bu bo bs N H : Nat) (out : List (List ByteArray)) (opn : List ByteArray) (sz : Int) (vu vo : Value) : Prop where
  cu : BlkAt wr bu 38 #[vu]
  co : BlkAt wr bo 22 #[vo]
  cs : BlkAt wr bs 3 #[.int .i64 sz]
  ou : OwnPk N H 50 wr vu out
  oo : OwnSeq H 9 IsText wr vo opn
  kp : Keeps w wr
  nh : N ≤ H
  hw : H ≤ wr.heap.size
/-- The three blocks. -/
structure GaB (w : World) (bu bo bs N : Nat) : Prop where
  lu : w.heap.size ≤ bu ∧ bu < N
  lo : w.heap.size ≤ bo ∧ bo < N
  ls : w.heap.size ≤ bs ∧ bs < N
section
variable {w wr wx w6 : World} {bu bo bs N H : Nat} {out : List (List ByteArray)} {opn : List ByteArray} {sz : Int} {vu vo : Value}
/-- What turns none of its blocks keeps the state. -/
theorem GaS.chg {T : Nat → Prop} (h : GaS w wr bu bo bs N H out opn sz vu vo) (c : Chg T wr wx) (hT : ∀ b, T b → typH wr.heap b = none) (hk : Kept w.heap.size wr wx) : GaS w wx bu bo bs N H out opn sz vu vo := by
  have hn : ∀ {b E}, typH wr.heap b = some E → ¬ T b := fun ht hb => by rw [hT _ hb] at ht; cases ht
  refine ⟨h.cu.chg c (hn h.cu.typ), h.co.chg c (hn h.co.typ), h.cs.chg c (hn h.cs.typ), h.ou.chg c (fun q _ _ ht => hn ht) (fun q _ _ _ ht => ht.elim (fun e => hn e) fun e => hn e), h.oo.chg c (fun q hq => ?_) fun _ _ _ x => x, h.kp.then hk (Nat.le_refl _), h.nh, Nat.le_trans h.hw c.size⟩
  · obtain ⟨us, hu, _⟩ := h.oo
    exact hn (own_block hu q hq).2.2
theorem GaS.keeps (h : GaS w wr bu bo bs N H out opn sz vu vo) (k : Keeps wr wx) : GaS w wx bu bo bs N H out opn sz vu vo :=
  h.chg (T := fun _ => False) (Kept.any k) (fun _ x => x.elim) (k.mono h.kp.size)
/-- A store of another number. -/
theorem GaS.size (h : GaS w wr bu bo bs N H out opn sz vu vo) (hB : GaB w bu bo bs N) (sz' : Int) : GaS w (wr.setCell ⟨bs, 0, none⟩ (.int .i64 sz')) bu bo bs N H out opn sz' vu vo := by
  have c := chg_set wr bs 0 (.int .i64 sz')
  have ne : ∀ {b E}, typH wr.heap b = some E → E ≠ 3 → ¬ b = bs := fun ht hE e => by subst e; rw [h.cs.typ] at ht; exact hE (Option.some.inj ht).symm
  refine ⟨h.cu.chg c (ne h.cu.typ (by decide)), h.co.chg c (ne h.co.typ (by decide)), by simpa using h.cs.set 0 (.int .i64 sz'), h.ou.chg c (fun q _ _ ht => ne ht (by decide)) (fun q _ _ _ ht => ht.elim (fun e => ne e (by decide)) fun e => ne e (by decide)), h.oo.chg c (fun q hq => ?_) fun _ _ _ x => x, h.kp.setCell (p := ⟨bs, 0, none⟩) hB.ls.1 _, h.nh, by rw [World.size_setCell]; exact h.hw⟩
  · obtain ⟨us, hu, _⟩ := h.oo
    exact ne (own_block hu q hq).2.2 (by decide)
/-- The open chunks are struck. -/
theorem GaS.strike (h : GaS w wr bu bo bs N H out opn sz vu vo) (hB : GaB w bu bo bs N) : GaS w (wr.setCell ⟨bo, 0, none⟩ (.slice none 0 0)) bu bo bs N wr.heap.size out [] sz vu (.slice none 0 0) := by
  have c := chg_set wr bo 0 (.slice none 0 0)
  have ne : ∀ {b E}, typH wr.heap b = some E → E ≠ 22 → ¬ b = bo := fun ht hE e => by subst e; rw [h.co.typ] at ht; exact hE (Option.some.inj ht).symm
  refine ⟨h.cu.chg c (ne h.cu.typ (by decide)), by simpa using h.co.set 0 (.slice none 0 0), h.cs.chg c (ne h.cs.typ (by decide)), (h.ou.chg c (fun q _ _ ht => ne ht (by decide)) (fun q _ _ _ ht => ht.elim (fun e => ne e (by decide)) fun e => ne e (by decide))).mono h.hw, OwnSeq.nil _ _ _ _, h.kp.setCell (p := ⟨bo, 0, none⟩) hB.lo.1 _, Nat.le_trans h.nh h.hw, by rw [World.size_setCell]; exact Nat.le_refl _⟩
/-- A chunk more. -/
theorem GaS.push {us : List Value} {v' : Value} {c : ByteArray} (h : GaS w wr bu bo bs N H out opn sz vu vo) (hB : GaB w bu bo bs N)
    (h0 : wr.ownsRow H 9 1 vo us.length us) (h1 : us.length = opn.length) (h2 : ∀ i (h : i < us.length) (h' : i < opn.length), IsText us[i] opn[i])
    (hx : Keeps wr wx) (h3 : w6.ownsRow H 9 1 v' (us.length + 1) (us ++ [.string c])) (hc0 : Chg (fun b => vo.ownBlock = some b) wx w6) : GaS w (w6.setCell ⟨bo, 0, none⟩ v') bu bo bs N H out (opn ++ [c]) sz vu v' := by
  have hc : Chg (fun b => vo.ownBlock = some b) wr w6 := (Kept.any hx).trans hc0
  have hcs := chg_set w6 bo 0 v'
  have hT : Chg (fun b => vo.ownBlock = some b ∨ b = bo) wr (w6.setCell ⟨bo, 0, none⟩ v') := (hc.mono fun _ _ => .inl).trans (hcs.mono fun _ _ => .inr)
  have ne : ∀ {b E}, typH wr.heap b = some E → E ≠ 22 → E ≠ 9 → ¬ (vo.ownBlock = some b ∨ b = bo) := fun ht hE hE2 e => by
    rcases e with e | e
    · exact own_type h0 ht hE2 e
    · subst e; rw [h.co.typ] at ht; exact hE (Option.some.inj ht).symm
  refine ⟨h.cu.chg hT (ne h.cu.typ (by decide) (by decide)), ?_, h.cs.chg hT (ne h.cs.typ (by decide) (by decide)), h.ou.chg hT (fun q _ _ ht => ne ht (by decide) (by decide)) (fun q _ hN hH _ e => ?_), ?_, ?_, h.nh, by rw [World.size_setCell]; exact Nat.le_trans h.hw hc.size⟩
  · have := (h.co.chg hc (own_type h0 h.co.typ (by decide))).set 0 v'
    simpa using this
  · rcases e with e | e
    · have := (own_block h0 q e).1; omega
    · have := hB.lo; omega
  · exact (OwnSeq.push (R := IsText) (R' := IsText) h1 h2 h3 (fun _ _ _ x => x) rfl).chg hcs (fun b hb e => by
      have := (own_blockK (show w6.ownsRow H 9 1 v' _ _ from h3) b hb).1
      have := hB.lo; have := h.nh; omega) fun _ _ _ x => x
  · refine h.kp.then (chg_kept (B := w.heap.size) hT (fun q _ e => ?_) (h.kp.size)) (Nat.le_refl _)
    have := hB.lo; have := h.nh
    rcases e with e | e
    · have := (own_block h0 q e).1; omega
    · omega
/-- A pack more; the open chunks are struck. -/
theorem GaS.shut {us : List (List Value)} {v' : Value} {u : List Value} {ls : List PkAt} (h : GaS w wr bu bo bs N H out opn sz vu vo) (hB : GaB w bu bo bs N)
    (h0 : wr.ownsRow N 50 4 vu us.length us.flatten) (hls : ls.map (·.1) = out) (hch : ChainP N H ls) (h1 : us.length = ls.length) (h2 : ∀ i (h : i < us.length) (h' : i < ls.length), us[i].length = 4 ∧ IsPk wr.heap us[i] ls[i])
    (hu : u.length = 4) (hp : IsPack (wr.heap.size ≤ ·) wx.heap u opn)
    (hx : Keeps wr wx) (h3 : w6.ownsRow N 50 4 v' (us.length + 1) (us.flatten ++ u)) (hc0 : Chg (fun b => vu.ownBlock = some b) wx w6) :
    GaS w ((w6.setCell ⟨bu, 0, none⟩ v').setCell ⟨bo, 0, none⟩ (.slice none 0 0)) bu bo bs N w6.heap.size (out ++ [opn]) [] sz v' (.slice none 0 0) := by
  have hc : Chg (fun b => vu.ownBlock = some b) wr w6 := (Kept.any hx).trans hc0
  have c7 := chg_set w6 bu 0 v'
  have c8 := chg_set (w6.setCell ⟨bu, 0, none⟩ v') bo 0 (.slice none 0 0)
  have hz8 : ((w6.setCell ⟨bu, 0, none⟩ v').setCell ⟨bo, 0, none⟩ (.slice none 0 0)).heap.size = w6.heap.size := by rw [World.size_setCell, World.size_setCell]
  have h6u : BlkAt w6 bu 38 #[vu] := h.cu.chg hc (own_type h0 h.cu.typ (by decide))
  have h6o : BlkAt w6 bo 22 #[vo] := h.co.chg hc (own_type h0 h.co.typ (by decide))
  have hT : Chg (fun b => vu.ownBlock = some b ∨ (b = bu ∨ b = bo)) wr ((w6.setCell ⟨bu, 0, none⟩ v').setCell ⟨bo, 0, none⟩ (.slice none 0 0)) := ((hc.mono fun _ _ => .inl).trans (c7.mono fun _ _ e => .inr (.inl e))).trans (c8.mono fun _ _ e => .inr (.inr e))
  have hT2 : Chg (fun b => b = bu ∨ b = bo) w6 ((w6.setCell ⟨bu, 0, none⟩ v').setCell ⟨bo, 0, none⟩ (.slice none 0 0)) := (c7.mono fun _ _ e => .inl e).trans (c8.mono fun _ _ e => .inr e)
  have nuo : bu ≠ bo := fun e => by
    have h1 := h6u.typ
    rw [e, h6o.typ] at h1
    exact absurd (Option.some.inj h1) (by decide)
  have hlu := hB.lu
  have hlo := hB.lo
  have hT3 : Chg (fun b => vu.ownBlock = some b ∨ (b = bu ∨ b = bo)) wx ((w6.setCell ⟨bu, 0, none⟩ v').setCell ⟨bo, 0, none⟩ (.slice none 0 0)) := ((hc0.mono fun _ _ => .inl).trans (c7.mono fun _ _ e => .inr (.inl e))).trans (c8.mono fun _ _ e => .inr (.inr e))
  have hbu := own_blockK h0
  refine ⟨?_, ?_, ?_, ?_, OwnSeq.nil _ _ _ _, ?_, Nat.le_trans h.nh (Nat.le_trans h.hw hc.size), Nat.le_of_eq hz8.symm⟩
  · have := (h6u.set 0 v').other (c := bo) (i := 0) (fun e => nuo e.symm) (.slice none 0 0)
    simpa using this
  · have := (h6o.other (c := bu) (i := 0) nuo v').set 0 (.slice none 0 0)
    simpa using this
  · refine h.cs.chg hT fun e => ?_
    rcases e with e | e | e
    · exact own_type h0 h.cs.typ (by decide) e
    · subst e; have := h.cs.typ; rw [h.cu.typ] at this; exact absurd (Option.some.inj this) (by decide)
    · subst e; have := h.cs.typ; rw [h.co.typ] at this; exact absurd (Option.some.inj this) (by decide)
  · have hnh := h.nh
    have hhw := h.hw
    have hpush : OwnRec N 50 4 (IsPk ((w6.setCell ⟨bu, 0, none⟩ v').setCell ⟨bo, 0, none⟩ (.slice none 0 0)).heap) w6 v' (ls ++ [(opn, wr.heap.size, wx.heap.size)]) := by
      refine OwnRec.push (R := IsPk wr.heap) h1 h2 h3 (fun a b hb x => ?_) hu ?_
      · refine IsPack.chg (S := fun q => b.2.1 ≤ q ∧ q < b.2.2) x hT fun q _ hq ht e => ?_
        have hbd := hch.1 b hb
        rcases e with e | e
        · rcases ht with ht | ht
          · exact own_type h0 ht (by decide) e
          · exact own_type h0 ht (by decide) e
        · omega
      · refine IsPack.chg (S := fun q => wr.heap.size ≤ q ∧ q < wx.heap.size) hp.bound hT3 fun q _ hq _ e => ?_
        rcases e with e | e
        · have := (hbu q e).2.1; omega
        · omega
    exact ⟨ls ++ [(opn, wr.heap.size, wx.heap.size)], by rw [List.map_append, hls]; rfl, hch.snoc hhw (Nat.le_trans hnh hhw) hc0.size (Nat.le_trans hhw hc.size), hpush.chg hT2 (fun q hq _ _ e => by omega) fun _ _ _ x => x⟩
  · refine h.kp.then (chg_kept (B := w.heap.size) hT (fun q _ e => ?_) (h.kp.size)) (Nat.le_refl _)
    rcases e with e | e
    · have := (hbu q e).1; omega
    · omega
end
theorem ne_up : (38 : TypeId) ≠ 50 := by decide
theorem ne_op : (22 : TypeId) ≠ 50 := by decide
theorem pack_one {S : Nat → Prop} {h : Array Obj} {us : List Value} {g : List ByteArray} (k : IsPack S h us g) : ∀ y ∈ us, y.oneCell' = true := by
  obtain ⟨c, p, rfl, h1, h2⟩ := k
  obtain ⟨a1, q1, rfl⟩ := seq_shape (SeqIn.at_ h1)
  obtain ⟨a2, q2, rfl⟩ := rec_shape h2.at_
  intro y hy
  simp at hy
  rcases hy with rfl | rfl | rfl | rfl <;> rfl
set_option maxRecDepth 100000 in
set_option maxHeartbeats 4000000 in
/-- The function that shuts a pack. -/
theorem gend_any {w wr : World} {bu bo bs N H : Nat} {out : List (List ByteArray)} {opn : List ByteArray} {sz : Int} {vu vo : Value} (h : GaS w wr bu bo bs N H out opn sz vu vo) (hB : GaB w bu bo bs N) (hm : opn = [] ∨ mayP opn = true) (hl : out.length ≤ 1000000) :
    Calls Try.prog 46 #[.pointer (some ⟨bo, 0, none⟩), .pointer (some ⟨bu, 0, none⟩), .pointer (some ⟨bs, 0, none⟩)] wr fun e w' => e = .returned (.tuple #[]) ∧ (∃ vu', GaS w w' bu bo bs N w'.heap.size (shutG (out, opn)) [] 0 vu' (.slice none 0 0)) ∧ Chg (fun b => typH wr.heap b ≠ none) wr w' := by
  have HS := Lib.hid h
  have HB := Lib.hid hB
  obtain ⟨uo, ho1, ho2, ho3⟩ := h.oo
  obtain ⟨po, qo, rfl⟩ := own_slice ho1
  have hul : uo.length = opn.length := ho2
  have c0 : wr.cell? ⟨bo, 0, none⟩ = some (.slice po uo.length qo) := h.co.cell rfl
  have f0 := h.co.froz 0
  have fs := h.cs.froz 0
  have cs : wr.cell? ⟨bs, 0, none⟩ = some (.int .i64 sz) := h.cs.cell rfl
  by_cases he : opn = []
  · subst he
    have h0 : uo.length = 0 := by rw [hul]; rfl
    have hne : bs ≠ bo := fun e => by have := h.cs.typ; rw [e, h.co.typ] at this; exact absurd (Option.some.inj this) (by decide)
    have HF : Hid (GaS w ((wr.setCell ⟨bo, 0, none⟩ (.slice none 0 0)).setCell ⟨bs, 0, none⟩ (.int .i64 0)) bu bo bs N ((wr.setCell ⟨bo, 0, none⟩ (.slice none 0 0)).setCell ⟨bs, 0, none⟩ (.int .i64 0)).heap.size (shutG (out, [])) [] 0 vu (.slice none 0 0)) := by
      have := (h.strike hB).size hB 0
      rw [World.size_setCell, World.size_setCell]
      exact this
    have c1 : (wr.setCell ⟨bo, 0, none⟩ (.slice none 0 0)).cell? ⟨bs, 0, none⟩ = some (.int .i64 sz) := (h.strike hB).cs.cell rfl
    have f1 := (h.strike hB).cs.froz 0
    rw [h0] at c0
    have HCH : Hid (Chg (fun b => typH wr.heap b ≠ none) wr ((wr.setCell ⟨bo, 0, none⟩ (.slice none 0 0)).setCell ⟨bs, 0, none⟩ (.int .i64 0))) := ((chg_set _ _ _ _).mono fun b _ e => by subst e; rw [h.co.typ]; simp).trans ((chg_set _ _ _ _).mono fun b _ e => by subst e; rw [h.cs.typ]; simp)
    clear h hB ho1 ho2 ho3 hul h0 hm
    go_enter Try.func46, Try.ntmps46
    go_wp2
    go_end0
    exact ⟨rfl, ⟨vu, HF.out⟩, HCH.out⟩
  · have hmo := hm.resolve_left he
    obtain ⟨ls, hls, hch, us, hu1, hu2, hu3⟩ := h.ou
    have hll : ls.length = out.length := by rw [← hls, List.length_map]
    obtain ⟨pu, qu, rfl⟩ := own_sliceK hu1
    have hpos : 0 < uo.length := by rw [hul]; cases opn with | nil => exact absurd rfl he | cons => simp
    have i1 : decide ((0 : Int) < (uo.length : Int)) = true := decide_eq_true (by omega)
    have i2 : (0 : Int) < (uo.length : Int) := by omega
    have c1 : wr.cell? ⟨bu, 0, none⟩ = some (.slice pu us.length qu) := h.cu.cell rfl
    have HT : Hid (TextsAt wr.heap (.slice po uo.length qo) opn) := SeqIn.at_ (h.oo.seq (by have := mayP_len hmo; omega))
    have HU := Lib.hid hu1
    have HL2 := Lib.hid hu2
    have H3 := Lib.hid hu3
    have HLS := Lib.hid hls
    have HCH0 := Lib.hid hch
    have HMO := Lib.hid hmo
    have HSE : Hid (shutG (out, opn) = out ++ [opn]) := shutG_ne he
    have hlu : us.length ≤ 1000000 := by omega
    have HNE : Hid (bu ≠ bo) := fun e => by have := h.cu.typ; rw [e, h.co.typ] at this; exact absurd (Option.some.inj this) (by decide)
    have hnz : N ≤ wr.heap.size := Nat.le_trans h.nh h.hw
    clear h hB ho1 ho2 ho3 hul hm he hmo hu1 hu2 hu3 hl hls hch hll
    go_enter Try.func46, Try.ntmps46
    go_upto_region 1 with (fail)
    go_region_law (first | (refine step_appr1 elPack rfl (.tmp 6) (.tmp 9) rfl N (.slice pu us.length qu) us.length us.flatten (by simp [Act.eval]) (HU4.out.alloc _) _ [.string (strB (blobP opn)), .string (dgP opn), cc, pp] (by simp [Act.eval]; try rfl) rfl ?_ ?_ (by omega) ?_ ?_; exact fun j hj => (match j, hj with | 0, _ => World.cell?_alloc_new _ _ _ _ | 1, _ => World.cell?_alloc_new _ _ _ _ | 2, _ => World.cell?_alloc_new _ _ _ _ | 3, _ => World.cell?_alloc_new _ _ _ _); exact HC1.out; (simp; omega); intro v' w6 hown hchg; have HB6 := Lib.hid (BlkAt.past (HS4.out.keeps (kal w4 _)).cu (HU4.out.alloc _) ne_up hchg); have c6 : w6.cell? ⟨bu, 0, none⟩ = some (.slice pu us.length qu) := HB6.out.cell rfl; have f6 := HB6.out.froz 0; obtain ⟨pv, qv, rfl⟩ := own_sliceK hown; have HO6 := Lib.hid hown; have HC6 := Lib.hid hchg; clear hown hchg) | (go_simp; go_at_call 47; refine Calls.mono (pone_any _ opn _ HT.out HMO.out) ?_; rintro e w4 ⟨cc, pp, rfl, hp4, hk4⟩; have HS4 := Lib.hid (HS.out.keeps hk4); have HP4 := Lib.hid hp4; have HU4 := Lib.hid (owns_chgK (T := fun _ => False) HU.out (Kept.any hk4) fun _ _ x => x); have c14 : w4.cell? ⟨bu, 0, none⟩ = some (.slice pu us.length qu) := HS4.out.cu.cell rfl; have cA : ∀ o : Obj, (w4.alloc o).cell? ⟨bu, 0, none⟩ = some (.slice pu us.length qu) := fun o => (HS4.out.keeps (kal w4 o)).cu.cell rfl; have HC1 := Lib.hid (pack_one HP4.out); have hnz4 := Nat.le_trans HS4.out.nh HS4.out.hw; have HK4 := Lib.hid hk4; clear hk4 hp4))
    all_goals
      have HF : Hid (GaS w ((w6.setCell ⟨bu, 0, none⟩ (.slice pv (us.length + 1) qv)).setCell ⟨bo, 0, none⟩ (.slice none 0 0)) bu bo bs N w6.heap.size (out ++ [opn]) [] sz (.slice pv (us.length + 1) qv) (.slice none 0 0)) := GaS.shut HS.out HB.out HU.out HLS.out HCH0.out HL2.out H3.out rfl (HP4.out.keeps (kal w4 _)) (Keeps.trans HK4.out (kal w4 _)) HO6.out HC6.out
      have HB7 : Hid (BlkAt (w6.setCell ⟨bu, 0, none⟩ (.slice pv (us.length + 1) qv)) bo 22 #[.slice po uo.length qo]) := (BlkAt.past (HS4.out.keeps (kal w4 _)).co (HU4.out.alloc _) ne_op HC6.out).other HNE.out _
      have HFF : Hid (GaS w (((w6.setCell ⟨bu, 0, none⟩ (.slice pv (us.length + 1) qv)).setCell ⟨bo, 0, none⟩ (.slice none 0 0)).setCell ⟨bs, 0, none⟩ (.int .i64 0)) bu bo bs N (((w6.setCell ⟨bu, 0, none⟩ (.slice pv (us.length + 1) qv)).setCell ⟨bo, 0, none⟩ (.slice none 0 0)).setCell ⟨bs, 0, none⟩ (.int .i64 0)).heap.size (shutG (out, opn)) [] 0 (.slice pv (us.length + 1) qv) (.slice none 0 0)) := by
        have := HF.out.size HB.out 0
        show GaS _ _ _ _ _ _ _ _ _ _ _ _
        rw [World.size_setCell, World.size_setCell, World.size_setCell, HSE.out]
        exact this
      have HCH : Hid (Chg (fun b => typH wr.heap b ≠ none) wr (((w6.setCell ⟨bu, 0, none⟩ (.slice pv (us.length + 1) qv)).setCell ⟨bo, 0, none⟩ (.slice none 0 0)).setCell ⟨bs, 0, none⟩ (.int .i64 0))) := (((Chg.trans (b := w4) (Kept.any HK4.out) (Kept.any (kal w4 _))).trans (HC6.out.mono fun b _ e => by rw [(own_blockK HU.out b e).2.2]; simp)).trans ((chg_set _ _ _ _).mono fun b _ e => by subst e; rw [HS.out.cu.typ]; simp)).trans (((chg_set _ _ _ _).mono fun b _ e => by subst e; rw [HS.out.co.typ]; simp).trans ((chg_set _ _ _ _).mono fun b _ e => by subst e; rw [HS.out.cs.typ]; simp))
      have k1 : (w6.setCell ⟨bu, 0, none⟩ (.slice pv (us.length + 1) qv)).cell? ⟨bo, 0, none⟩ = some (.slice po uo.length qo) := HB7.out.cell rfl
      have k2 := HB7.out.froz 0
      have k3 : ((w6.setCell ⟨bu, 0, none⟩ (.slice pv (us.length + 1) qv)).setCell ⟨bo, 0, none⟩ (.slice none 0 0)).cell? ⟨bs, 0, none⟩ = some (.int .i64 sz) := HF.out.cs.cell rfl
      have k4 := HF.out.cs.froz 0
      clear HF HB7 HC6 HO6 HB6 HS4 HP4 HU4 c14 cA HC1 HK4 c6 f6 c0 f0 fs cs c1 HS HU HT H3
      go_wp2
      go_end0
      exact ⟨rfl, ⟨_, HFF.out⟩, HCH.out⟩
end Go.Proofs.Yteandjophamipaa
