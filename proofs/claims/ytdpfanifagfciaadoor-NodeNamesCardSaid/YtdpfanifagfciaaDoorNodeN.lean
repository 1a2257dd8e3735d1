/- The walks of law19.many (a byte, so often) and of law19.file (an entry of so many chunks). -/
import Derived.Test.YtdpfanifagfciaaDoorNodeB
import Derived.Test.YtdpfanifagfciaaDoorStageG
namespace Go.Proofs.YtdpfanifagfciaaDoor
open Go.RowKit
attribute [local go_sem ↓] Go.wp_at_zero Go.wp_at_succ
/-- Block r is a row of n bytes: f 0, .. -/
def BRow (h : Array Obj) (r n : Nat) (f : Nat → UInt8) : Prop := typH h r = some 5 ∧ ∀ j, j < n → frozH h r j = false ∧ cellH h r j = some (.int .u8 ((f j).toNat : Int))
theorem BRow.congr {h : Array Obj} {r n : Nat} {f g : Nat → UInt8} (k : BRow h r n f) (e : ∀ j, j < n → f j = g j) : BRow h r n g :=
  ⟨k.1, fun j hj => ⟨(k.2 j hj).1, by rw [← e j hj]; exact (k.2 j hj).2⟩⟩
theorem BRow.set {w : World} {r n : Nat} {f : Nat → UInt8} (k : BRow w.heap r n f) {j : Nat} (hj : j < n) (x : UInt8) : BRow (w.setCell ⟨r, j, none⟩ (.int .u8 (x.toNat : Int))).heap r n (fun q => if q = j then x else f q) := by
  refine ⟨by rw [typH_set]; exact k.1, fun q hq => ⟨by rw [frozH_set]; exact (k.2 q hq).1, ?_⟩⟩
  rw [cellH_set _ _ _ _ _ _ _ (k.2 j hj).2]
  by_cases e : j = q
  · subst e; rw [if_pos ⟨rfl, rfl⟩]; (try dsimp only); rw [if_pos rfl]
  · rw [if_neg (fun x => e x.2)]; (try dsimp only); rw [if_neg (fun h => e h.symm)]; exact (k.2 q hq).2
theorem BRow.new (w : World) (n : Nat) : BRow (w.alloc (.cells (reps n (.int .u8 0)) 5)).heap w.heap.size n (fun _ => 0) := by
  have hg : (w.alloc (.cells (reps n (.int .u8 0)) 5)).heap[w.heap.size]? = some (.cells (reps n (.int .u8 0)) 5 (0, 0)) := heap_alloc_new _ _
  refine ⟨typH_new _ _ _, fun j hj => ⟨?_, ?_⟩⟩
  · unfold frozH; rw [hg]; simp
  · unfold cellH; rw [hg]; exact reps_at _ hj
theorem BRow.at_ {h : Array Obj} {r n : Nat} {f : Nat → UInt8} (k : BRow h r n f) (hn : n ≤ 9223372036854775807) : RowAt h (.slice (some ⟨r, 0, none⟩) n n) ((List.range n).map f) :=
  ⟨_, n, by simp, by simpa using hn, fun i hi => ⟨r, 0, _, rfl, by rw [Nat.zero_add]; exact (k.2 i (by simpa using hi)).2, by simp [IsByte]⟩⟩
theorem mk_brow (n : Nat) (h : n ≤ 60000) (w : World) : (Instr.makeSlice 45 (.int .i64 (n : Int)) (.int .i64 (n : Int))).run Tryd.prog w = .ok (.slice (some ⟨w.heap.size, 0, none⟩) n n) (w.alloc (.cells (reps n (.int .u8 0)) 5)) :=
  run_mk 45 5 1 (.int .u8 0) Tryd.underlying45 (by kernel_rfl) rfl n (by omega) (by omega) w
def manyB (n : Nat) (c : UInt8) : ByteArray := strB (List.replicate n c)
set_option maxRecDepth 100000 in
set_option maxHeartbeats 4000000 in
theorem many_any (n : Nat) (c : UInt8) (w : World) (hn : n ≤ 60000) : Calls Tryd.prog 43 #[.int .i64 (n : Int), .int .u8 (c.toNat : Int)] w fun e w' => e = .returned (.string (manyB n c)) ∧ Keeps w w' := by
  have hmk := mk_brow n hn
  have HN := Lib.hid hn
  have hn2 : n ≤ 60000 := hn
  clear hn
  go_enter Tryd.func43, Tryd.ntmps43
  go_wp2_with fail
  clear hmk
  go_loopw [6] (fun i wr => ∃ k : Nat, k ≤ n ∧ i = .int .i64 k ∧ Hid (BRow wr.heap w.heap.size n (fun j => if j < k then c else 0)) ∧ Hid (Keeps w wr)) (fun i _ => n - (intOf i).toNat)
  case atStart => exact ⟨0, by omega, rfl, (BRow.new w n).congr fun j _ => by (try dsimp only); rw [if_neg (by omega)], kal _ _⟩
  case round =>
    obtain ⟨k, hk, rfl, hR, hK⟩ := hrel
    by_cases hlt : k < n
    · have i1 : (k : Int) < (n : Int) := by omega
      have i0 : (0 : Int) ≤ (k : Int) := by omega
      obtain ⟨f1, c1⟩ := hR.out.2 k hlt
      rw [← froz_of] at f1
      rw [← cell_of] at c1
      dsimp only at c1
      have HR2 : Hid (BRow (wr.setCell ⟨w.heap.size, k, none⟩ (.int .u8 (c.toNat : Int))).heap w.heap.size n (fun j => if j < k + 1 then c else 0)) := (hR.out.set hlt c).congr fun j _ => by
        (try dsimp only)
        by_cases e : j = k
        · rw [if_pos e, if_pos (by omega)]
        · rw [if_neg e]
          by_cases e2 : j < k
          · rw [if_pos e2, if_pos (by omega)]
          · rw [if_neg e2, if_neg (by omega)]
      have HK2 : Hid (Keeps w (wr.setCell ⟨w.heap.size, k, none⟩ (.int .u8 (c.toNat : Int)))) := hK.out.setCell (p := ⟨w.heap.size, k, none⟩) (Nat.le_refl _) _
      go_wp2
      exact ⟨⟨k + 1, by omega, by go_num, HR2, HK2⟩, by simp [intOf]; omega⟩
    · obtain rfl : k = n := by omega
      have HRA : Hid (RowAt wr.heap (.slice (some ⟨w.heap.size, 0, none⟩) k k) (List.replicate k c)) := by
        have h := (hR.out.congr (g := fun _ => c) fun j hj => by (try dsimp only); rw [if_pos hj]).at_ (by have := HN.out; omega)
        have e : (List.range k).map (fun _ => c) = List.replicate k c := by apply List.ext_getElem <;> simp
        show RowAt _ _ _
        rw [← e]; exact h
      have hcv := conv_row (P := Tryd.prog) (src := 45) (dst := 9) (e := 5) Tryd.underlying45 (by kernel_rfl) Tryd.underlying9 HRA.out
      go_wp2_with fail
      go_ret
      exact ⟨rfl, hK.out⟩
/-- The chunk that law19.file makes. -/
def chC : ByteArray := manyB 32 99
def fileR (nm : ByteArray) (z : Int) (k : Nat) : EntR := ⟨nm, false, z, List.replicate k chC⟩
def fAr (nm : ByteArray) (z : Int) (cv : Value) : Array Value := #[.string nm, .bool false, .int .i64 z, cv]
/-- The state while an entry is made: the result's block, the entry's; nothing that was there has turned. -/
structure FxS (w wr : World) (nm : ByteArray) (z : Int) (cv : Value) : Prop where
  kp : Keeps w wr
  r6 : BlkAt wr w.heap.size 33 #[.string ByteArray.empty, .bool false, .int .i64 0, .slice none 0 0]
  xb : BlkAt wr (w.heap.size + 1) 33 (fAr nm z cv)
section
variable {w wr w' : World} {nm : ByteArray} {z : Int} {cv : Value}
theorem FxS.keeps (x : FxS w wr nm z cv) (k : Keeps wr w') : FxS w w' nm z cv := ⟨x.kp.trans k, x.r6.keeps k, x.xb.keeps k⟩
theorem FxS.setF (x : FxS w wr nm z cv) (v : Value) : FxS w (wr.setCell ⟨w.heap.size + 1, 3, none⟩ v) nm z v :=
  ⟨((Kept.any (T := fun k => k = w.heap.size + 1) x.kp).trans (chg_set wr (w.heap.size + 1) 3 v)).keeps fun k h1 h2 => by omega, x.r6.other (by omega) v, x.xb.set 3 v⟩
theorem FxS.grow {ob : Option Nat} (x : FxS w wr nm z cv) (c : Chg (fun k => ob = some k) wr w') (ho : ∀ k, ob = some k → w.heap.size ≤ k ∧ typH wr.heap k = some 9) : FxS w w' nm z cv := by
  refine ⟨((Kept.any (T := fun k => ob = some k) x.kp).trans c).keeps fun k h1 h2 => ?_, x.r6.chg c fun e => ?_, x.xb.chg c fun e => ?_⟩
  · have := (ho k h2).1; omega
  · have := (ho _ e).2
    rw [x.r6.typ] at this; exact absurd this (by decide)
  · have := (ho _ e).2
    rw [x.xb.typ] at this; exact absurd this (by decide)
abbrev ChF (w wr : World) (cv : Value) (c : List ByteArray) : Prop := OwnSeq w.heap.size 9 IsText wr cv c
theorem ChF.keeps {c : List ByteArray} (s : ChF w wr cv c) (h : Keeps wr w') : ChF w w' cv c := OwnSeq.chg (T := fun _ => False) s (Kept.any h) (fun _ _ x => x) fun _ _ _ x => x
theorem ChF.setF {c : List ByteArray} {cv' : Value} (s : ChF w wr cv' c) (x : FxS w wr nm z cv) (v : Value) : ChF w (wr.setCell ⟨w.heap.size + 1, 3, none⟩ v) cv' c := by
  obtain ⟨us, h1, h2, h3⟩ := s
  exact ⟨us, owns_chg h1 (chg_set wr (w.heap.size + 1) 3 v) fun k hk e => by
    have := (own_block h1 k hk).2.2
    rw [e, x.xb.typ] at this; exact absurd this (by decide), h2, h3⟩
end
def fxB (w : World) (N0 NC : Nat) (nm : ByteArray) (z : Int) (pc : Option Addr) (qc : Nat) (c : List ByteArray) : Nat → (Nat → Value) → World → Prop
  | 0, _, w' => FxS w w' nm z (.slice pc NC qc) ∧ ChF w w' (.slice pc NC qc) c ∧ N0 ≤ w'.heap.size
  | 1, vs, w' => FxS w w' nm z (.slice pc NC qc) ∧ ChF w w' (vs 4) (c ++ [chC])
  | _, vs, w' => FxS w w' nm z (vs 4) ∧ ChF w w' (vs 4) (c ++ [chC])
theorem fxB_upd {w : World} {N0 NC : Nat} {nm : ByteArray} {z : Int} {pc : Option Addr} {qc : Nat} {c : List ByteArray} {s i : Nat} {vs : Nat → Value} {v : Value} {w' : World} (h : fxB w N0 NC nm z pc qc c s vs w') (hi : 4 ≠ i) : fxB w N0 NC nm z pc qc c s (upd vs i v) w' :=
  match s, h with
  | 0, h => h
  | 1, h => ⟨h.1, by rw [upd_other _ _ hi]; exact h.2⟩
  | _ + 2, h => by
    obtain ⟨h1, h2⟩ := h
    refine ⟨?_, ?_⟩ <;> rw [upd_other _ _ hi] <;> assumption
def fxBP (GG N0 NC : Nat) (pc : Option Addr) (qc : Nat) : Nat → Value → World → Prop
  | 3, v, w => ∃ g, v = .slice (some ⟨g, 0, none⟩) 1 1 ∧ N0 ≤ g ∧ BlkAt w g 9 #[.string chC]
  | 4, v, _ => ∃ p q, v = .slice p (NC + 1) q
  | i, v, _ => v = ([.pointer (some ⟨GG, 3, none⟩), .slice pc NC qc, .string chC, undef, undef, .pointer (some ⟨GG, 3, none⟩), undef] : List Value).getD i undef
theorem fxBP_chg {GG N0 NC : Nat} {pc : Option Addr} {qc : Nat} (i : Nat) (v : Value) (w w' : World) (c : Chg (fun b => b < N0) w w') (h : fxBP GG N0 NC pc qc i v w) : fxBP GG N0 NC pc qc i v w' := by
  match i, h with
  | 0, h => exact h
  | 1, h => exact h
  | 2, h => exact h
  | 3, h => exact (let ⟨g, e, hq, hb⟩ := h; ⟨g, e, hq, hb.chg c fun x => Nat.not_lt.2 hq x⟩)
  | 4, h => exact h
  | 5, h => exact h
  | 6, h => exact h
  | _ + 7, h => exact h
set_option maxRecDepth 100000 in
set_option maxHeartbeats 4000000 in
theorem file_any (nm : ByteArray) (z : Int) (k : Nat) (w : World) (hk : k ≤ 10000) : Calls Tryd.prog 44 #[.string nm, .int .i64 z, .int .i64 (k : Int)] w fun e w' => ∃ p q, e = .returned (.agg #[.string nm, .bool false, .int .i64 z, .slice p k q]) ∧ SeqIn (w.heap.size ≤ ·) 9 IsText w'.heap (.slice p k q) (List.replicate k chC) ∧ k ≤ q ∧ Keeps w w' := by
  have HMN : Hid (∀ wx, Calls Tryd.prog 43 #[.int .i64 32, .int .u8 99] wx fun e w' => e = .returned (.string chC) ∧ Keeps wx w') := fun wx => many_any 32 99 wx (by decide)
  go_enter Tryd.func44, Tryd.ntmps44
  go_wp2_with (refine wpList_store_row rfl 33 (.tmp 7) (.tmp 11) rfl (w.heap.size + 1) #[.string nm, .bool false, .int .i64 z, .slice none 0 0] rfl rfl 33 _ (heap_alloc_last1 w _ _) (by kernel_rfl) rfl (entA_one nm false z none 0 0) ?_; rw [setRow_alloc1])
  go_loopw [8] (fun i wr => ∃ (j : Nat) (cv : Value), j ≤ k ∧ i = .int .i64 j ∧ Hid (FxS w wr nm z cv) ∧ Hid (ChF w wr cv (List.replicate j chC))) (fun i _ => k - (intOf i).toNat)
  case atStart => exact ⟨0, .slice none 0 0, by omega, rfl, ⟨(kal _ _).trans (kal _ _), (BlkAt.new w _ _).keeps (kal _ _), heap_alloc_last1 w _ _⟩, OwnSeq.nil _ _ _ _⟩
  case round =>
    obtain ⟨j, cv, hj, rfl, HI, HC⟩ := hrel
    obtain ⟨wq, rfl⟩ : ∃ wy : World, wy = wr := ⟨_, rfl⟩
    have HLR : Hid ((List.replicate j chC).length = j) := List.length_replicate
    obtain ⟨pc, qc, hcv⟩ : ∃ p q, cv = .slice p j q ∧ j ≤ q := by
      obtain ⟨us, h1, h2, _⟩ := HC.out
      obtain ⟨p, q, e, hq⟩ := own_sliceC h1
      rw [HLR.out] at h2
      exact ⟨p, q, by rw [e, h2], by omega⟩
    obtain ⟨rfl, hjq⟩ := hcv
    by_cases hlt : j < k
    · have HS : Hid (List.replicate j chC ++ [chC] = List.replicate (j + 1) chC) := by
        show _ = _
        rw [List.replicate_succ']
      have HGQ : Hid (w.heap.size + 1 < wq.heap.size) := HI.out.xb.lt
      have HCL : Hid (j ≤ 10000) := by show _ ≤ _; omega
      have HOB : Hid (∀ q, (Value.slice pc j qc).ownBlock = some q → q < wq.heap.size) := by
        obtain ⟨us, h1, _, _⟩ := HC.out
        exact fun q hq => (own_block h1 q hq).2.1
      have i1 : (j : Int) < (k : Int) := by omega
      generalize List.replicate j chC = c at *
      go_upto_region 5 with (fail)
      refine wp_region_stageG [17, 18, 19, 20, 21, 22, 10006] [[], [0], [], [2], [1, 3], [], [4, 5]] [4, 6] [0, 0, 0, 0, 0, 0, 1] [] [5] [6] (fxBP (w.heap.size + 1) wq.heap.size j pc qc) (fun w w' => Chg (fun b => b < wq.heap.size) w w') (fxB w wq.heap.size j nm z pc qc c) (by kernel_rfl) (by kernel_rfl) (by kernel_rfl) (by kernel_rfl) (by kernel_rfl) (by kernel_rfl) (by kernel_rfl) ?_ ?_ ?_ ?_ ?_ ?_ ?_
      · exact fun i v w w' c h => fxBP_chg i v w w' c h
      · exact fun _ => Chg.refl _ _
      · exact fun i s vs w h => by cases h
      · refine ⟨?_, ?_, ?_, ?_, ?_, ?_, ?_, trivial⟩
        · exact fun g b h => by (cases h)
        · exact fun g b h => by (cases h)
        · exact fun g b h => by (cases h)
        · exact fun g b h => by (cases h)
        · exact fun g b h => by (cases h)
        · exact fun g b h => by (cases h)
        · exact fun g b h => by (cases h)
      · exact fun _ _ => ⟨HI.out.keeps (by exact keeps_refl _), ChF.keeps HC.out (by exact keeps_refl _), Nat.le_refl _⟩
      · refine ⟨?_, ?_, ?_, ?_, ?_, ?_, ?_, trivial⟩
        · intro _ s hs a w1 vs hI ho hn hu K hK
          obtain rfl : s = 0 := hs.1 rfl
          clear hs
          have e7 : a.tmps[7]? = some (.pointer (some ⟨(w.heap.size + 1), 0, none⟩)) := ho 7 rfl
          clear hn ho hu
          have hI : FxS w w1 nm z (.slice pc j qc) ∧ ChF w w1 (.slice pc j qc) c ∧ wq.heap.size ≤ w1.heap.size := hI
          go_simp
          exact hK _ _ (Chg.refl _ _) hI rfl
        · intro _ s hs a w1 vs hI ho hn hu K hK
          obtain rfl : s = 0 := hs.1 rfl
          clear hs
          obtain ⟨e17, g17⟩ : a.tmps[17]? = some (vs 0) ∧ vs 0 = .pointer (some ⟨(w.heap.size + 1), 3, none⟩) := ⟨(hn 0 (by decide)).1 (by decide), (hn 0 (by decide)).2⟩
          rw [g17] at e17
          clear g17
          clear hn ho hu
          have hI : FxS w w1 nm z (.slice pc j qc) ∧ ChF w w1 (.slice pc j qc) c ∧ wq.heap.size ≤ w1.heap.size := hI
          have c : w1.cell? ⟨w.heap.size + 1, 3, none⟩ = some (.slice pc j qc) := hI.1.xb.cell rfl
          go_simp
          exact hK _ _ (Chg.refl _ _) hI rfl
        · intro _ s hs a w1 vs hI ho hn hu K hK
          obtain rfl : s = 0 := hs.1 rfl
          clear hs
          clear hn ho hu
          have hI : FxS w w1 nm z (.slice pc j qc) ∧ ChF w w1 (.slice pc j qc) c ∧ wq.heap.size ≤ w1.heap.size := hI
          go_simp
          refine Calls.mono (HMN.out _) ?_
          rintro e w' ⟨rfl, hk2⟩
          go_simp
          exact hK _ _ (Kept.any hk2) ⟨FxS.keeps hI.1 hk2, ChF.keeps hI.2.1 hk2, Nat.le_trans hI.2.2 hk2.size⟩ rfl
        · intro _ s hs a w1 vs hI ho hn hu K hK
          obtain rfl : s = 0 := hs.1 rfl
          clear hs
          obtain ⟨e19, g19⟩ : a.tmps[19]? = some (vs 2) ∧ vs 2 = .string chC := ⟨(hn 2 (by decide)).1 (by decide), (hn 2 (by decide)).2⟩
          rw [g19] at e19
          clear g19
          clear hn ho hu
          have hI : FxS w w1 nm z (.slice pc j qc) ∧ ChF w w1 (.slice pc j qc) c ∧ wq.heap.size ≤ w1.heap.size := hI
          go_simp
          exact hK _ _ (Kept.any (kal _ _)) ⟨FxS.keeps hI.1 (kal _ _), ChF.keeps hI.2.1 (kal _ _), Nat.le_trans hI.2.2 (kal _ _).size⟩ ⟨_, rfl, hI.2.2, BlkAt.new _ _ _⟩
        · intro _ s hs a w1 vs hI ho hn hu K hK
          obtain rfl : s = 0 := hs.1 rfl
          clear hs
          obtain ⟨e18, g18⟩ : a.tmps[18]? = some (vs 1) ∧ vs 1 = .slice pc j qc := ⟨(hn 1 (by decide)).1 (by decide), (hn 1 (by decide)).2⟩
          rw [g18] at e18
          clear g18
          obtain ⟨e20, g20⟩ : a.tmps[20]? = some (vs 3) ∧ ∃ g, (vs 3) = .slice (some ⟨g, 0, none⟩) 1 1 ∧ wq.heap.size ≤ g ∧ BlkAt w1 g 9 #[.string chC] := ⟨(hn 3 (by decide)).1 (by decide), (hn 3 (by decide)).2⟩
          clear hn ho hu
          have hI : FxS w w1 nm z (.slice pc j qc) ∧ ChF w w1 (.slice pc j qc) c ∧ wq.heap.size ≤ w1.heap.size := hI
          obtain ⟨g, r9, hq, gb⟩ := g20
          rw [r9] at e20
          obtain ⟨us, hu1, hu2, hu3⟩ := hI.2.1
          have hul : us.length = j := hu2.trans HLR.out
          refine oper_appr1 elTextK rfl (.tmp 18) (.tmp 20) rfl w.heap.size (.slice pc j qc) us.length us (by simp [Act.eval, e18]) hu1 g [.string chC] (by simp [Act.eval, e20]) rfl (blk_cells gb) (by intro y hy; simp at hy; subst hy; rfl) (by have := HCL.out; omega) (Nat.le_of_lt (Nat.lt_of_succ_lt hI.1.xb.lt)) ?_
          intro v' w' ho hc
          exact hK v' w' (hc.mono fun k _ e => HOB.out k e) ⟨FxS.grow hI.1 hc (fun k hk => let ⟨a, _, d⟩ := own_block hu1 k hk; ⟨a, d⟩), by rw [upd_self]; exact OwnSeq.push hu2 hu3 ho (fun _ _ _ x => x) rfl⟩ (let ⟨p, q, e, _⟩ := own_sliceC ho; ⟨p, q, by rw [e, hul]⟩)
        · intro _ s hs a w1 vs hI ho hn hu K hK
          have hsb : s ≤ 1 := hs.2 1 (by decide) (by decide +kernel)
          clear hs
          have e7 : a.tmps[7]? = some (.pointer (some ⟨(w.heap.size + 1), 0, none⟩)) := ho 7 rfl
          clear hn ho hu
          go_simp
          exact hK _ _ (Chg.refl _ _) (fxB_upd hI (by decide)) rfl
        · intro _ s hs a w1 vs hI ho hn hu K hK
          obtain rfl : s = 1 := hs.1 rfl
          clear hs
          obtain ⟨e21, g21⟩ : a.tmps[21]? = some (vs 4) ∧ ∃ p q, (vs 4) = .slice p (j + 1) q := ⟨(hn 4 (by decide)).1 (by decide), (hn 4 (by decide)).2⟩
          obtain ⟨e22, g22⟩ : a.tmps[22]? = some (vs 5) ∧ vs 5 = .pointer (some ⟨(w.heap.size + 1), 3, none⟩) := ⟨(hn 5 (by decide)).1 (by decide), (hn 5 (by decide)).2⟩
          rw [g22] at e22
          clear g22
          clear hn ho hu
          have hI : FxS w w1 nm z (.slice pc j qc) ∧ ChF w w1 (vs 4) (c ++ [chC]) := hI
          obtain ⟨p, q, r9⟩ := g21
          rw [r9] at e21
          have c : w1.cell? ⟨w.heap.size + 1, 3, none⟩ = some (.slice pc j qc) := hI.1.xb.cell rfl
          have f := hI.1.xb.froz 3
          go_simp
          refine hK undef _ ((chg_set _ _ _ _).mono fun k _ e => by subst e; exact HGQ.out) ?_ rfl
          rw [← r9]
          exact ⟨FxS.setF hI.1 _, ChF.setF hI.2 hI.1 _⟩
      intro vs ws hI hG
      obtain ⟨hx, hc⟩ : FxS w ws nm z (vs 4) ∧ ChF w ws (vs 4) (c ++ [chC]) := hI
      clear hG
      simp only [setAll, Nat.zero_add, Nat.reduceAdd, List.setIfInBounds_toArray, List.set_cons_zero, List.set_cons_succ, List.set_nil]
      generalize vs 0 = x0 at *
      generalize vs 1 = x1 at *
      generalize vs 2 = x2 at *
      generalize vs 3 = x3 at *
      generalize vs 4 = x4 at *
      generalize vs 5 = x5 at *
      generalize vs 6 = x6 at *
      have HI9 := Lib.hid hx
      have HC9 := Lib.hid hc
      clear hx hc
      rw [HS.out] at HC9
      clear HMN HGQ HOB HI HC HS
      go_wp2_with fail
      refine ⟨?_, by simp [intOf]; omega⟩
      first | exact ⟨j + 1, _, by omega, by go_num, HI9, HC9⟩ | ((repeat apply Exists.intro); exact ⟨⟨j + 1, _, by omega, by go_num, HI9, HC9⟩, rfl⟩)
    · obtain rfl : j = k := by omega
      have HSQ : Hid (SeqIn (w.heap.size ≤ ·) 9 IsText wq.heap (.slice pc j qc) (List.replicate j chC)) := OwnSeq.seq HC.out (by rw [HLR.out]; omega)
      have hx : wq.heap[w.heap.size + 1]? = some (.cells #[.string nm, .bool false, .int .i64 z, .slice pc j qc] 33 (0, 0)) := HI.out.xb
      have HX := Lib.hid hx
      have H6 := Lib.hid HI.out.r6
      clear HMN hx HC
      go_wp2_with (first | (refine wpList_load_row rfl 33 (.tmp 7) rfl (w.heap.size + 1) rfl 33 _ (0, 0) _ HX.out Tryd.underlying33 rfl (by kernel_rfl) ?_) | (refine wpList_store_row rfl 33 (.tmp 6) (.tmp 23) rfl w.heap.size #[.string nm, .bool false, .int .i64 z, .slice pc j qc] rfl rfl 33 _ H6.out (by kernel_rfl) rfl (entA_one nm false z pc j qc) ?_))
      exact bodyPost_ret (v := .agg #[.string nm, .bool false, .int .i64 z, .slice pc j qc]) (results_cell_row rfl _ _ w.heap.size 33 (#[.string nm, .bool false, .int .i64 z, .slice pc j qc] : Array Value) (0, 0) _ rfl (setRow_heap wq _ _ _ _ _ H6.out) Tryd.underlying33 rfl (by kernel_rfl)) rfl
        ⟨pc, qc, rfl, SeqIn.chg HSQ.out (chg_row wq w.heap.size _) (fun q _ _ ht e => by subst e; rw [H6.out.typ] at ht; exact absurd ht (by decide)) fun _ _ _ x => x, hjq, HI.out.kp.then (chg_kept (B := w.heap.size) (chg_row _ _ _) (fun q _ e => by subst e; exact Nat.le_refl _) HI.out.kp.size) (Nat.le_refl _)⟩
end Go.Proofs.YtdpfanifagfciaaDoor
