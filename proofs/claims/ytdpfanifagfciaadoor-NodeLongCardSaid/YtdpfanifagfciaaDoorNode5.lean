/- The walks of law19's given and taken. Printed by gengiv19.py. -/
import Derived.Test.YtdpfanifagfciaaDoorNode4
import Derived.Test.YtdpfanifagfciaaDoorAppFr
namespace Go.Proofs.YtdpfanifagfciaaDoor
open Go.RowKit
attribute [local go_sem ↓] Go.wp_at_zero Go.wp_at_succ
theorem elTextK : ElemTyK Tryd.prog 31 9 (.string ByteArray.empty) 1 16 := ⟨Tryd.underlying31, by kernel_rfl, rfl, by decide, by decide⟩
def textsV (l : List ByteArray) : List Value := l.map (.string ·)
theorem textsV_len (l : List ByteArray) : (textsV l).length = l.length := List.length_map _
theorem textsV_cells {w : World} {b off c n : Nat} {l : List ByteArray} (h : SeqAt IsText w.heap (.slice (some ⟨b, off, none⟩) n c) l) : ∀ j (hj : j < (textsV l).length), w.cell? ⟨b, off + j, none⟩ = some (textsV l)[j] := fun j hj => by
  rw [textsV_len] at hj
  obtain ⟨u, h1, h2⟩ := seq_at h hj
  unfold IsText at h2
  rw [h1, h2]; simp [textsV]
theorem own_sliceC {w : World} {base : Nat} {E : TypeId} {v : Value} {k n : Nat} {us : List Value} (h : w.ownsRow base E k v n us) : ∃ p c, v = .slice p n c ∧ n ≤ c := by
  rcases h.2 with ⟨rfl, hn⟩ | ⟨g, cap, cur, rfl, _, _, hc, _⟩
  · exact ⟨none, 0, by rw [hn], by omega⟩
  · exact ⟨_, _, rfl, hc⟩
theorem own_typeT {base : Nat} {E : TypeId} {w : World} {v : Value} {us : List Value} {k n : Nat} (h : w.ownsRow base E k v n us) {b : Nat} {F : TypeId} (hb : typH w.heap b = some F) (hn : F ≠ E) : v.ownBlock ≠ some b := fun e => by
  have := (own_blockK h b e).2.2
  rw [hb] at this
  exact hn (Option.some.inj this)
/-- append of texts onto a slice of no cells and no room: in new memory, or nothing. -/
theorem oper_freshT {w : World} {o : Oper} {a : Act} {K : Act → World → Prop} {Q : Exit → Act → World → Prop} (hgd : o.guard = none) (s x : Operand) (ho : o.op = .call { callee := .builtin .append, args := #[s, x], argTypes := #[31, 31] })
    (g : Nat) (hs : a.eval s = .slice (some ⟨g, 0, none⟩) 0 0) (p : Option Addr) (m c : Nat) (l : List ByteArray) (hx : a.eval x = .slice p m c) (hm : m = l.length) (ht : SeqAt IsText w.heap (.slice p m c) l) (hlen : m ≤ 1000000)
    (h : ∀ v' w', (∃ p3 q3, v' = .slice p3 m q3 ∧ m ≤ q3 ∧ SeqIn (fun b => w.heap.size ≤ b) 9 IsText w'.heap (.slice p3 m q3) l) → Keeps w w' → K (a.put o.dst v') w') : Oper.wp Tryd.prog o a w K Q := by
  subst hm
  rcases Nat.eq_zero_or_pos l.length with h0 | h0
  · have hl := List.length_eq_zero_iff.1 h0
    subst hl
    obtain ⟨i, h2, h3, h4, h5⟩ := info_parts elTextK.hi
    have hr : (Builtin.append_ #[31, 31] o.type #[.slice (some ⟨g, 0, none⟩) 0 0, .slice p 0 c]).run Tryd.prog w = .ok (.slice (some ⟨g, 0, none⟩) 0 0) w := by
      cases p <;> simp [Builtin.append_, run_underlying elTextK.ht, sizeOf, typeInfo, h2, h4, Builtin.lenOf, Builtin.firstCells, loadCells, loadCellsFrom, storeCells]
    unfold Oper.wp execOp
    simp only [ho, resolve, invoke, builtin, Sem.run_bind, Sem.run_pure, Result.andThen_ok, List.map_toArray, List.map_cons, List.map_nil, hs, hx, List.length_nil, hr]
    exact h _ _ ⟨_, _, rfl, Nat.le_refl _, ⟨_, _, rfl, by simp, fun i hi => absurd hi (by simp)⟩⟩ (keeps_refl _)
  · obtain ⟨b, off, c', u, e, _, _⟩ := seq_cell ht h0
    injection e with e1 _ _
    subst e1
    refine oper_fresh elTextK hgd s x ho g hs b off l.length c (textsV l) hx (by rw [textsV_len, Nat.mul_one]) h0 (textsV_cells ht) (by omega) fun v' w' h2 h3 => ?_
    obtain ⟨p3, q3, rfl, hc⟩ := own_sliceC h2
    have hx : OwnSeq w.heap.size 9 IsText w' (.slice p3 l.length q3) l := ⟨textsV l, by rw [textsV_len]; exact h2, textsV_len l, fun i hi hi' => by show _ = _; simp [textsV]⟩
    exact h _ _ ⟨p3, q3, rfl, hc, hx.seq (by omega)⟩ h3
/-- An entry whose texts lie in blocks of texts. -/
def IsEntT (S : Nat → Prop) (h : Array Obj) (us : List Value) (x : EntR) : Prop := ∃ v, us = [.string x.n, .bool x.d, .int .i64 x.z, v] ∧ SeqIn S 9 IsText h v x.c ∧ ∀ a n q, v = .slice a n q → n ≤ q
theorem IsEntT.chg {S T : Nat → Prop} {w w' : World} {us : List Value} {x : EntR} (h : IsEntT S w.heap us x) (c : Chg T w w') (hs : ∀ b, b < w.heap.size → S b → typH w.heap b = some 9 → ¬ T b) : IsEntT S w'.heap us x :=
  let ⟨v, e, t, q⟩ := h; ⟨v, e, t.chg c hs fun _ _ _ x => x, q⟩
theorem IsEntT.mono {S S' : Nat → Prop} {h : Array Obj} {us : List Value} {x : EntR} (k : IsEntT S h us x) (hs : ∀ b, S b → S' b) : IsEntT S' h us x :=
  let ⟨v, e, t, q⟩ := k; ⟨v, e, t.mono hs fun _ _ x => x, q⟩
theorem IsEntT.len {S : Nat → Prop} {h : Array Obj} {us : List Value} {x : EntR} (k : IsEntT S h us x) : us.length = 4 := by obtain ⟨_, rfl, _⟩ := k; rfl
theorem IsEntT.at_ {S : Nat → Prop} {h : Array Obj} {us : List Value} {x : EntR} (k : IsEntT S h us x) : IsEnt h us x := let ⟨v, e, t, q⟩ := k; ⟨v, e, SeqIn.at_ t, q⟩
/-- Not too many. -/
def NumE (l : List EntR) : Prop := l.length ≤ 1000000 ∧ ∀ x ∈ l, x.c.length ≤ 1000000
def givG_I (w wr : World) (x : EntR) (vo : Value) (n : Nat) (xs : List Value) : Nat → (Nat → Value) → World → Prop
  | 0, _, w1 => Keeps wr w1
  | 1, vs, w1 => ∃ (w5 : World) (u : List Value), Keeps wr w5 ∧ w1.ownsRow w.heap.size 33 4 (vs 25) (n + 1) (xs ++ u) ∧ IsEntT (fun b => wr.heap.size ≤ b) w5.heap u x ∧ Chg (fun q => vo.ownBlock = some q) w5 w1
  | _, vs, w1 => ∃ (w5 : World) (u : List Value), Keeps wr w5 ∧ w1.ownsRow w.heap.size 33 4 (vs 26) (n + 1) (xs ++ u) ∧ IsEntT (fun b => wr.heap.size ≤ b) w5.heap u x ∧ Chg (fun q => vo.ownBlock = some q) w5 w1
def givG (b o nn q k N0 : Nat) (pv : Option Addr) (nu qv : Nat) (xn : ByteArray) (xd : Bool) (xz : Int) (xc : List ByteArray) (pc : Option Addr) (qc : Nat) : Nat → Value → World → Prop
  | 16, v, _ => ∃ g, v = .slice (some ⟨g, 0, none⟩) 0 0
  | 22, v, w => ∃ p3 q3, v = .slice p3 xc.length q3 ∧ xc.length ≤ q3 ∧ SeqIn (fun b => N0 ≤ b) 9 IsText w.heap (.slice p3 xc.length q3) xc
  | 23, v, w => ∃ p3 q3, v = .agg #[.string xn, .bool xd, .int .i64 xz, .slice p3 xc.length q3] ∧ xc.length ≤ q3 ∧ SeqIn (fun b => N0 ≤ b) 9 IsText w.heap (.slice p3 xc.length q3) xc
  | 24, v, w => ∃ g p3 q3, v = .slice (some ⟨g, 0, none⟩) 1 1 ∧ N0 ≤ g ∧ BlkAt w g 33 #[.string xn, .bool xd, .int .i64 xz, .slice p3 xc.length q3] ∧ xc.length ≤ q3 ∧ SeqIn (fun b => N0 ≤ b) 9 IsText w.heap (.slice p3 xc.length q3) xc
  | 25, _, _ => True
  | 26, _, _ => True
  | i, v, _ => v = ([.slice pv nu qv, .slice (some ⟨b, o, none⟩) nn q, .int .i64 (k : Int), .pointer (some ⟨b, o + k * 4, none⟩), .pointer (some ⟨b, o + k * 4, none⟩), .string xn, .slice (some ⟨b, o, none⟩) nn q, .int .i64 (k : Int), .pointer (some ⟨b, o + k * 4, none⟩), .pointer (some ⟨b, o + k * 4 + 1, none⟩), .bool xd, .slice (some ⟨b, o, none⟩) nn q, .int .i64 (k : Int), .pointer (some ⟨b, o + k * 4, none⟩), .pointer (some ⟨b, o + k * 4 + 2, none⟩), .int .i64 xz, undef, .slice (some ⟨b, o, none⟩) nn q, .int .i64 (k : Int), .pointer (some ⟨b, o + k * 4, none⟩), .pointer (some ⟨b, o + k * 4 + 3, none⟩), .slice pc xc.length qc, undef, undef, undef, undef, undef] : List Value).getD i undef
theorem givG_chg {b o nn q k N0 : Nat} {pv : Option Addr} {nu qv : Nat} {xn : ByteArray} {xd : Bool} {xz : Int} {xc : List ByteArray} {pc : Option Addr} {qc : Nat} (i : Nat) (v : Value) (w w' : World) (c : Chg (fun b => b < N0) w w') (h : givG b o nn q k N0 pv nu qv xn xd xz xc pc qc i v w) : givG b o nn q k N0 pv nu qv xn xd xz xc pc qc i v w' := by
  match i, h with
  | 0, h => exact h
  | 1, h => exact h
  | 2, h => exact h
  | 3, h => exact h
  | 4, h => exact h
  | 5, h => exact h
  | 6, h => exact h
  | 7, h => exact h
  | 8, h => exact h
  | 9, h => exact h
  | 10, h => exact h
  | 11, h => exact h
  | 12, h => exact h
  | 13, h => exact h
  | 14, h => exact h
  | 15, h => exact h
  | 16, h => exact h
  | 17, h => exact h
  | 18, h => exact h
  | 19, h => exact h
  | 20, h => exact h
  | 21, h => exact h
  | 22, h => exact (let ⟨p3, q3, r1, r2, r3⟩ := h; ⟨p3, q3, r1, r2, r3.chg c (fun b _ hb _ => Nat.not_lt.2 hb) fun _ _ _ x => x⟩)
  | 23, h => exact (let ⟨p3, q3, r1, r2, r3⟩ := h; ⟨p3, q3, r1, r2, r3.chg c (fun b _ hb _ => Nat.not_lt.2 hb) fun _ _ _ x => x⟩)
  | 24, h => exact (let ⟨g, p3, q3, r, hg, gb, r2, r3⟩ := h; ⟨g, p3, q3, r, hg, gb.chg c (Nat.not_lt.2 hg), r2, r3.chg c (fun b _ hb _ => Nat.not_lt.2 hb) fun _ _ _ x => x⟩)
  | 25, h => exact h
  | 26, h => exact h
  | _ + 27, h => exact h
theorem elEntG : ElemTyK Tryd.prog 26 33 (.agg #[.string ByteArray.empty, .bool false, .int .i64 0, .slice none 0 0]) 4 56 := ⟨Tryd.underlying26, by kernel_rfl, rfl, by decide, by decide⟩
set_option maxRecDepth 100000 in
set_option maxHeartbeats 8000000 in
theorem given_any (v : Value) (l : List EntR) (w : World) (h : EntsAt w.heap v l) (hb : NumE l) : Calls Tryd.prog 21 #[v] w fun e w' => ∃ v', e = .returned v' ∧ EntsAt w'.heap v' l ∧ Keeps w w' := by
  obtain ⟨p, q, rfl⟩ := rec_shape h
  obtain ⟨hl6, hc6⟩ := hb
  have HC6 := Lib.hid hc6
  have H := Lib.hid h
  clear h hc6
  go_enter Tryd.func21, Tryd.ntmps21
  go_wp2_with fail
  go_loopw [3, 4] (fun vo i wr => ∃ k : Nat, k ≤ l.length ∧ i = .int .i64 k ∧ Hid (OwnRec w.heap.size 33 4 (IsEntT (fun _ => True) wr.heap) wr vo (l.take k)) ∧ Hid (Keeps w wr)) (fun _ i _ => l.length - (intOf i).toNat)
  case atStart => exact ⟨0, by omega, rfl, OwnRec.nil _ _ _ _ _, keeps_refl _⟩
  case round =>
    obtain ⟨k, hk, rfl, hO, hK⟩ := hrel
    by_cases hlt : k < l.length
    · have hlt64 : (k : Int) < (l.length : Int) := by omega
      have hk0 : (0 : Int) ≤ (k : Int) := by omega
      obtain ⟨us, hu1, hu2, hu3⟩ := hO.out
      obtain ⟨pv, qv, rfl, _⟩ := own_sliceC hu1
      have hul : us.length = k := by rw [hu2, List.length_take]; omega
      have HUO := Lib.hid hu1
      have HL2 := Lib.hid hu2
      have HL3 := Lib.hid hul
      have H3 := Lib.hid hu3
      have HSZ : Hid (w.heap.size ≤ wr.heap.size) := hK.out.size
      have HLT : Hid (∀ b, Value.ownBlock (.slice pv us.length qv) = some b → b < wr.heap.size) := fun b hb => (own_blockK HUO.out b hb).2.1
      clear hu1 hu2 hu3 hul hO
      obtain ⟨b, o, pc, qc, rfl, _, c0, c1, c2, c3, ht, hq⟩ := ent_cell (EntsAt.keeps H.out hK.out) hlt
      have HTK : Hid (l.take (k + 1) = l.take k ++ [eAt l k]) := take_eAt hlt
      have HBD : Hid ((eAt l k).c.length ≤ 1000000) := HC6.out _ (eAt_mem hlt)
      generalize eAt l k = X at *
      obtain ⟨xn, xd, xz, xc⟩ := X
      dsimp only at c0 c1 c2 c3 ht hq HBD
      have K0 := Lib.hid c0
      have K1 := Lib.hid c1
      have K2 := Lib.hid c2
      have K3 := Lib.hid c3
      have HTX := Lib.hid ht
      clear c0 c1 c2 c3 ht hq
      go_wp2_with fail
      refine wp_region_stage [11, 12, 13, 14, 15, 16, 17, 18, 19, 20, 21, 22, 23, 24, 25, 26, 27, 28, 29, 30, 31, 32, 33, 34, 35, 36, 3] [[], [], [], [1, 2], [3], [4], [], [], [6, 7], [8], [9], [], [], [11, 12], [13], [14], [], [], [], [17, 18], [19], [20], [16, 21], [5, 10, 15, 22], [23], [0, 24], [25]] [25, 26] [0, 0, 0, 0, 0, 0, 0, 0, 0, 0, 0, 0, 0, 0, 0, 0, 0, 0, 0, 0, 0, 0, 0, 0, 0, 0, 1] [] (givG b o l.length q k wr.heap.size pv us.length qv xn xd xz xc pc qc) (fun w w' => Chg (fun b => b < wr.heap.size) w w') (givG_I w wr ⟨xn, xd, xz, xc⟩ (.slice pv us.length qv) us.length us.flatten) (by kernel_rfl) (by kernel_rfl) (by kernel_rfl) (by kernel_rfl) (by kernel_rfl) (by kernel_rfl) (by kernel_rfl) ?_ ?_ ?_ ?_ ?_ ?_ ?_
      · exact fun i v w w' c h => givG_chg i v w w' c h
      · exact fun w => Chg.refl _ w
      · exact fun i s vs w h => by cases h
      · refine ⟨?_, ?_, ?_, ?_, ?_, ?_, ?_, ?_, ?_, ?_, ?_, ?_, ?_, ?_, ?_, ?_, ?_, ?_, ?_, ?_, ?_, ?_, ?_, ?_, ?_, ?_, ?_, trivial⟩
        · exact fun g b h => by (cases h)
        · exact fun g b h => by (cases h)
        · exact fun g b h => by (cases h)
        · exact fun g b h => by (cases h)
        · exact fun g b h => by (cases h)
        · exact fun g b h => by (cases h)
        · exact fun g b h => by (cases h)
        · exact fun g b h => by (cases h)
        · exact fun g b h => by (cases h)
        · exact fun g b h => by (cases h)
        · exact fun g b h => by (cases h)
        · exact fun g b h => by (cases h)
        · exact fun g b h => by (cases h)
        · exact fun g b h => by (cases h)
        · exact fun g b h => by (cases h)
        · exact fun g b h => by (cases h)
        · exact fun g b h => by (cases h)
        · exact fun g b h => by (cases h)
        · exact fun g b h => by (cases h)
        · exact fun g b h => by (cases h)
        · exact fun g b h => by (cases h)
        · exact fun g b h => by (cases h)
        · exact fun g b h => by (cases h)
        · exact fun g b h => by (cases h)
        · exact fun g b h => by (cases h)
        · exact fun g b h => by (cases h)
        · exact fun g b h => by (cases h)
      · exact fun _ _ => keeps_refl wr
      · refine ⟨?_, ?_, ?_, ?_, ?_, ?_, ?_, ?_, ?_, ?_, ?_, ?_, ?_, ?_, ?_, ?_, ?_, ?_, ?_, ?_, ?_, ?_, ?_, ?_, ?_, ?_, ?_, trivial⟩
        · intro _ a w1 vs hI ho hn hu K hK
          have e3 : a.tmps[3]? = some (.slice pv us.length qv) := hu 26 (by decide) (by decide)
          clear hn ho hu
          have hI : Keeps wr w1 := hI
          go_simp
          exact hK _ _ (Chg.refl _ _) hI rfl
        · intro _ a w1 vs hI ho hn hu K hK
          have e0 : a.tmps[0]? = some (.slice (some ⟨b, o, none⟩) l.length q) := ho 0 rfl
          clear hn ho hu
          have hI : Keeps wr w1 := hI
          go_simp
          exact hK _ _ (Chg.refl _ _) hI rfl
        · intro _ a w1 vs hI ho hn hu K hK
          have e4 : a.tmps[4]? = some (.int .i64 (k : Int)) := ho 4 rfl
          clear hn ho hu
          have hI : Keeps wr w1 := hI
          go_simp
          exact hK _ _ (Chg.refl _ _) hI rfl
        · intro _ a w1 vs hI ho hn hu K hK
          obtain ⟨e12, g12⟩ : a.tmps[12]? = some (vs 1) ∧ vs 1 = .slice (some ⟨b, o, none⟩) l.length q := hn 1 (by decide)
          rw [g12] at e12
          clear g12
          obtain ⟨e13, g13⟩ : a.tmps[13]? = some (vs 2) ∧ vs 2 = .int .i64 (k : Int) := hn 2 (by decide)
          rw [g13] at e13
          clear g13
          clear hn ho hu
          have hI : Keeps wr w1 := hI
          go_simp
          exact hK _ _ (Chg.refl _ _) hI rfl
        · intro _ a w1 vs hI ho hn hu K hK
          obtain ⟨e14, g14⟩ : a.tmps[14]? = some (vs 3) ∧ vs 3 = .pointer (some ⟨b, o + k * 4, none⟩) := hn 3 (by decide)
          rw [g14] at e14
          clear g14
          clear hn ho hu
          have hI : Keeps wr w1 := hI
          go_simp
          exact hK _ _ (Chg.refl _ _) hI rfl
        · intro _ a w1 vs hI ho hn hu K hK
          obtain ⟨e15, g15⟩ : a.tmps[15]? = some (vs 4) ∧ vs 4 = .pointer (some ⟨b, o + k * 4, none⟩) := hn 4 (by decide)
          rw [g15] at e15
          clear g15
          clear hn ho hu
          have hI : Keeps wr w1 := hI
          have c := keeps_cell hI K0.out
          go_simp
          exact hK _ _ (Chg.refl _ _) hI rfl
        · intro _ a w1 vs hI ho hn hu K hK
          have e0 : a.tmps[0]? = some (.slice (some ⟨b, o, none⟩) l.length q) := ho 0 rfl
          clear hn ho hu
          have hI : Keeps wr w1 := hI
          go_simp
          exact hK _ _ (Chg.refl _ _) hI rfl
        · intro _ a w1 vs hI ho hn hu K hK
          have e4 : a.tmps[4]? = some (.int .i64 (k : Int)) := ho 4 rfl
          clear hn ho hu
          have hI : Keeps wr w1 := hI
          go_simp
          exact hK _ _ (Chg.refl _ _) hI rfl
        · intro _ a w1 vs hI ho hn hu K hK
          obtain ⟨e17, g17⟩ : a.tmps[17]? = some (vs 6) ∧ vs 6 = .slice (some ⟨b, o, none⟩) l.length q := hn 6 (by decide)
          rw [g17] at e17
          clear g17
          obtain ⟨e18, g18⟩ : a.tmps[18]? = some (vs 7) ∧ vs 7 = .int .i64 (k : Int) := hn 7 (by decide)
          rw [g18] at e18
          clear g18
          clear hn ho hu
          have hI : Keeps wr w1 := hI
          go_simp
          exact hK _ _ (Chg.refl _ _) hI rfl
        · intro _ a w1 vs hI ho hn hu K hK
          obtain ⟨e19, g19⟩ : a.tmps[19]? = some (vs 8) ∧ vs 8 = .pointer (some ⟨b, o + k * 4, none⟩) := hn 8 (by decide)
          rw [g19] at e19
          clear g19
          clear hn ho hu
          have hI : Keeps wr w1 := hI
          go_simp
          exact hK _ _ (Chg.refl _ _) hI rfl
        · intro _ a w1 vs hI ho hn hu K hK
          obtain ⟨e20, g20⟩ : a.tmps[20]? = some (vs 9) ∧ vs 9 = .pointer (some ⟨b, o + k * 4 + 1, none⟩) := hn 9 (by decide)
          rw [g20] at e20
          clear g20
          clear hn ho hu
          have hI : Keeps wr w1 := hI
          have c := keeps_cell hI K1.out
          go_simp
          exact hK _ _ (Chg.refl _ _) hI rfl
        · intro _ a w1 vs hI ho hn hu K hK
          have e0 : a.tmps[0]? = some (.slice (some ⟨b, o, none⟩) l.length q) := ho 0 rfl
          clear hn ho hu
          have hI : Keeps wr w1 := hI
          go_simp
          exact hK _ _ (Chg.refl _ _) hI rfl
        · intro _ a w1 vs hI ho hn hu K hK
          have e4 : a.tmps[4]? = some (.int .i64 (k : Int)) := ho 4 rfl
          clear hn ho hu
          have hI : Keeps wr w1 := hI
          go_simp
          exact hK _ _ (Chg.refl _ _) hI rfl
        · intro _ a w1 vs hI ho hn hu K hK
          obtain ⟨e22, g22⟩ : a.tmps[22]? = some (vs 11) ∧ vs 11 = .slice (some ⟨b, o, none⟩) l.length q := hn 11 (by decide)
          rw [g22] at e22
          clear g22
          obtain ⟨e23, g23⟩ : a.tmps[23]? = some (vs 12) ∧ vs 12 = .int .i64 (k : Int) := hn 12 (by decide)
          rw [g23] at e23
          clear g23
          clear hn ho hu
          have hI : Keeps wr w1 := hI
          go_simp
          exact hK _ _ (Chg.refl _ _) hI rfl
        · intro _ a w1 vs hI ho hn hu K hK
          obtain ⟨e24, g24⟩ : a.tmps[24]? = some (vs 13) ∧ vs 13 = .pointer (some ⟨b, o + k * 4, none⟩) := hn 13 (by decide)
          rw [g24] at e24
          clear g24
          clear hn ho hu
          have hI : Keeps wr w1 := hI
          go_simp
          exact hK _ _ (Chg.refl _ _) hI rfl
        · intro _ a w1 vs hI ho hn hu K hK
          obtain ⟨e25, g25⟩ : a.tmps[25]? = some (vs 14) ∧ vs 14 = .pointer (some ⟨b, o + k * 4 + 2, none⟩) := hn 14 (by decide)
          rw [g25] at e25
          clear g25
          clear hn ho hu
          have hI : Keeps wr w1 := hI
          have c := keeps_cell hI K2.out
          go_simp
          exact hK _ _ (Chg.refl _ _) hI rfl
        · intro _ a w1 vs hI ho hn hu K hK
          clear hn ho hu
          have hI : Keeps wr w1 := hI
          go_simp
          exact hK _ _ (Kept.any (kal _ _)) (Keeps.trans hI (kal _ _)) ⟨_, rfl⟩
        · intro _ a w1 vs hI ho hn hu K hK
          have e0 : a.tmps[0]? = some (.slice (some ⟨b, o, none⟩) l.length q) := ho 0 rfl
          clear hn ho hu
          have hI : Keeps wr w1 := hI
          go_simp
          exact hK _ _ (Chg.refl _ _) hI rfl
        · intro _ a w1 vs hI ho hn hu K hK
          have e4 : a.tmps[4]? = some (.int .i64 (k : Int)) := ho 4 rfl
          clear hn ho hu
          have hI : Keeps wr w1 := hI
          go_simp
          exact hK _ _ (Chg.refl _ _) hI rfl
        · intro _ a w1 vs hI ho hn hu K hK
          obtain ⟨e28, g28⟩ : a.tmps[28]? = some (vs 17) ∧ vs 17 = .slice (some ⟨b, o, none⟩) l.length q := hn 17 (by decide)
          rw [g28] at e28
          clear g28
          obtain ⟨e29, g29⟩ : a.tmps[29]? = some (vs 18) ∧ vs 18 = .int .i64 (k : Int) := hn 18 (by decide)
          rw [g29] at e29
          clear g29
          clear hn ho hu
          have hI : Keeps wr w1 := hI
          go_simp
          exact hK _ _ (Chg.refl _ _) hI rfl
        · intro _ a w1 vs hI ho hn hu K hK
          obtain ⟨e30, g30⟩ : a.tmps[30]? = some (vs 19) ∧ vs 19 = .pointer (some ⟨b, o + k * 4, none⟩) := hn 19 (by decide)
          rw [g30] at e30
          clear g30
          clear hn ho hu
          have hI : Keeps wr w1 := hI
          go_simp
          exact hK _ _ (Chg.refl _ _) hI rfl
        · intro _ a w1 vs hI ho hn hu K hK
          obtain ⟨e31, g31⟩ : a.tmps[31]? = some (vs 20) ∧ vs 20 = .pointer (some ⟨b, o + k * 4 + 3, none⟩) := hn 20 (by decide)
          rw [g31] at e31
          clear g31
          clear hn ho hu
          have hI : Keeps wr w1 := hI
          have c := keeps_cell hI K3.out
          go_simp
          exact hK _ _ (Chg.refl _ _) hI rfl
        · intro _ a w1 vs hI ho hn hu K hK
          obtain ⟨e27, g27⟩ : a.tmps[27]? = some (vs 16) ∧ ∃ g, (vs 16) = .slice (some ⟨g, 0, none⟩) 0 0 := hn 16 (by decide)
          obtain ⟨e32, g32⟩ : a.tmps[32]? = some (vs 21) ∧ vs 21 = .slice pc xc.length qc := hn 21 (by decide)
          rw [g32] at e32
          clear g32
          clear hn ho hu
          have hI : Keeps wr w1 := hI
          obtain ⟨g, r⟩ := g27
          rw [r] at e27
          refine oper_freshT rfl (.tmp 27) (.tmp 32) rfl g (by simp [Act.eval, e27]) pc xc.length qc xc (by simp [Act.eval, e32]) rfl (SeqAt.keeps HTX.out hI) HBD.out ?_
          intro v' w' ho hk
          exact hK v' w' (Kept.any hk) (Keeps.trans hI hk) (let ⟨p3, q3, r1, r2, r3⟩ := ho; ⟨p3, q3, r1, r2, r3.mono (fun b hb => Nat.le_trans (Kept.size hI) hb) fun _ _ x => x⟩)
        · intro _ a w1 vs hI ho hn hu K hK
          obtain ⟨e16, g16⟩ : a.tmps[16]? = some (vs 5) ∧ vs 5 = .string xn := hn 5 (by decide)
          rw [g16] at e16
          clear g16
          obtain ⟨e21, g21⟩ : a.tmps[21]? = some (vs 10) ∧ vs 10 = .bool xd := hn 10 (by decide)
          rw [g21] at e21
          clear g21
          obtain ⟨e26, g26⟩ : a.tmps[26]? = some (vs 15) ∧ vs 15 = .int .i64 xz := hn 15 (by decide)
          rw [g26] at e26
          clear g26
          obtain ⟨e33, g33⟩ : a.tmps[33]? = some (vs 22) ∧ ∃ p3 q3, (vs 22) = .slice p3 xc.length q3 ∧ xc.length ≤ q3 ∧ SeqIn (fun b => wr.heap.size ≤ b) 9 IsText w1.heap (.slice p3 xc.length q3) xc := hn 22 (by decide)
          clear hn ho hu
          have hI : Keeps wr w1 := hI
          obtain ⟨p3, q3, r1, r2, r3⟩ := g33
          rw [r1] at e33
          go_simp
          exact hK _ _ (Chg.refl _ _) hI ⟨p3, q3, rfl, r2, r3⟩
        · intro _ a w1 vs hI ho hn hu K hK
          obtain ⟨e34, g34⟩ : a.tmps[34]? = some (vs 23) ∧ ∃ p3 q3, (vs 23) = .agg #[.string xn, .bool xd, .int .i64 xz, .slice p3 xc.length q3] ∧ xc.length ≤ q3 ∧ SeqIn (fun b => wr.heap.size ≤ b) 9 IsText w1.heap (.slice p3 xc.length q3) xc := hn 23 (by decide)
          clear hn ho hu
          have hI : Keeps wr w1 := hI
          obtain ⟨p3, q3, r1, r2, r3⟩ := g34
          rw [r1] at e34
          go_simp
          exact hK _ _ (Kept.any (kal _ _)) (Keeps.trans hI (kal _ _)) ⟨_, p3, q3, rfl, Kept.size hI, BlkAt.new _ _ _, r2, r3.chg (T := fun _ => False) (Kept.any (kal _ _)) (fun _ _ _ _ x => x) fun _ _ _ x => x⟩
        · intro _ a w1 vs hI ho hn hu K hK
          obtain ⟨e11, g11⟩ : a.tmps[11]? = some (vs 0) ∧ vs 0 = .slice pv us.length qv := hn 0 (by decide)
          rw [g11] at e11
          clear g11
          obtain ⟨e35, g35⟩ : a.tmps[35]? = some (vs 24) ∧ ∃ g p3 q3, (vs 24) = .slice (some ⟨g, 0, none⟩) 1 1 ∧ wr.heap.size ≤ g ∧ BlkAt w1 g 33 #[.string xn, .bool xd, .int .i64 xz, .slice p3 xc.length q3] ∧ xc.length ≤ q3 ∧ SeqIn (fun b => wr.heap.size ≤ b) 9 IsText w1.heap (.slice p3 xc.length q3) xc := hn 24 (by decide)
          clear hn ho hu
          have hI : Keeps wr w1 := hI
          obtain ⟨g, p3, q3, r, hg, gb, r2, r3⟩ := g35
          rw [r] at e35
          refine oper_appr1 elEntG rfl (.tmp 11) (.tmp 35) rfl w.heap.size (.slice pv us.length qv) us.length us.flatten (by simp [Act.eval, e11]) (owns_chgK (T := fun _ => False) HUO.out (Kept.any hI) fun _ _ x => x) g [.string xn, .bool xd, .int .i64 xz, .slice p3 xc.length q3] (by simp [Act.eval, e35]) rfl (blk_cells gb) (by intro y hy; simp at hy; rcases hy with rfl | rfl | rfl | rfl <;> rfl) (by have := HL3.out; omega) (Nat.le_trans HSZ.out (Kept.size hI)) ?_
          intro v' w' ho hc
          exact hK v' w' (hc.mono fun b _ hb => HLT.out b hb) ⟨w1, _, hI, by rw [upd_self]; exact ho, ⟨_, rfl, r3, fun _ _ _ e => by cases e; exact r2⟩, hc⟩ trivial
        · intro _ a w1 vs hI ho hn hu K hK
          obtain ⟨e36, g36⟩ : a.tmps[36]? = some (vs 25) ∧ True := hn 25 (by decide)
          clear hn ho hu
          have hI : ∃ (w5 : World) (u : List Value), Keeps wr w5 ∧ w1.ownsRow w.heap.size 33 4 (vs 25) (us.length + 1) (us.flatten ++ u) ∧ IsEntT (fun b => wr.heap.size ≤ b) w5.heap u ⟨xn, xd, xz, xc⟩ ∧ Chg (fun q => Value.ownBlock (.slice pv us.length qv) = some q) w5 w1 := hI
          obtain ⟨w5, u, h5, ho, hp, hc⟩ := hI
          go_simp
          exact hK _ _ (Chg.refl _ _) ⟨w5, u, h5, by rw [upd_self]; exact ho, hp, hc⟩ trivial
      · intro vs wE hI hG
        obtain ⟨w5, u5, h5, ho, hp, hc⟩ : ∃ (w5 : World) (u : List Value), Keeps wr w5 ∧ wE.ownsRow w.heap.size 33 4 (vs 26) (us.length + 1) (us.flatten ++ u) ∧ IsEntT (fun b => wr.heap.size ≤ b) w5.heap u ⟨xn, xd, xz, xc⟩ ∧ Chg (fun q => Value.ownBlock (.slice pv us.length qv) = some q) w5 wE := hI
        clear hG
        simp only [setAll, Nat.zero_add, Nat.reduceAdd, List.setIfInBounds_toArray, List.set_cons_zero, List.set_cons_succ]
        generalize vs 0 = y0 at *
        generalize vs 1 = y1 at *
        generalize vs 2 = y2 at *
        generalize vs 3 = y3 at *
        generalize vs 4 = y4 at *
        generalize vs 5 = y5 at *
        generalize vs 6 = y6 at *
        generalize vs 7 = y7 at *
        generalize vs 8 = y8 at *
        generalize vs 9 = y9 at *
        generalize vs 10 = y10 at *
        generalize vs 11 = y11 at *
        generalize vs 12 = y12 at *
        generalize vs 13 = y13 at *
        generalize vs 14 = y14 at *
        generalize vs 15 = y15 at *
        generalize vs 16 = y16 at *
        generalize vs 17 = y17 at *
        generalize vs 18 = y18 at *
        generalize vs 19 = y19 at *
        generalize vs 20 = y20 at *
        generalize vs 21 = y21 at *
        generalize vs 22 = y22 at *
        generalize vs 23 = y23 at *
        generalize vs 24 = y24 at *
        generalize vs 25 = y25 at *
        generalize vs 26 = y26 at *
        have hcc : Chg (fun q => Value.ownBlock (.slice pv us.length qv) = some q) wr wE := (Kept.any h5).trans hc
        have HO6 : Hid (OwnRec w.heap.size 33 4 (IsEntT (fun _ => True) wE.heap) wE y26 (l.take (k + 1))) := by
          show OwnRec _ _ _ _ _ _ _
          rw [HTK.out]
          refine OwnRec.push (R := IsEntT (fun _ => True) wr.heap) HL2.out H3.out ho (fun a b _ x => IsEntT.chg x hcc fun b _ _ ht => own_typeT HUO.out ht (by decide)) (IsEntT.len hp) ?_
          exact (IsEntT.chg hp hc fun q _ hq _ e => Nat.not_lt.2 hq (HLT.out q e)).mono fun _ _ => trivial
        have HK6 : Hid (Keeps w wE) := hK.out.then (chg_kept (B := w.heap.size) hcc (fun q _ e => (own_blockK HUO.out q e).1) HSZ.out) (Nat.le_refl _)
        clear h5 ho hp hc hcc HUO HL2 HL3 H3 HLT K0 K1 K2 K3 HTX
        go_wp2_with fail
        refine ⟨?_, by simp [intOf]; omega⟩
        first | exact ⟨k + 1, by omega, by go_num, HO6, HK6⟩ | ((repeat apply Exists.intro); exact ⟨⟨k + 1, by omega, by go_num, HO6, HK6⟩, rfl⟩)
    · obtain rfl : k = l.length := by omega
      have HE := Lib.hid hO.out
      have HK2 := Lib.hid hK.out
      clear hO hK
      go_wp2_with fail
      go_ret
      refine ⟨_, rfl, ?_, HK2.out⟩
      have h1 := HE.out
      rw [List.take_length] at h1
      exact (RecIn.at_ (h1.seq (by omega))).imp (fun _ _ _ e => e) fun _ _ _ x => x.at_

def givT_I (w wr : World) (x : EntR) (vo : Value) (n : Nat) (xs : List Value) : Nat → (Nat → Value) → World → Prop
  | 0, _, w1 => Keeps wr w1
  | 1, vs, w1 => ∃ (w5 : World) (u : List Value), Keeps wr w5 ∧ w1.ownsRow w.heap.size 40 4 (vs 25) (n + 1) (xs ++ u) ∧ IsEntT (fun b => wr.heap.size ≤ b) w5.heap u x ∧ Chg (fun q => vo.ownBlock = some q) w5 w1
  | _, vs, w1 => ∃ (w5 : World) (u : List Value), Keeps wr w5 ∧ w1.ownsRow w.heap.size 40 4 (vs 26) (n + 1) (xs ++ u) ∧ IsEntT (fun b => wr.heap.size ≤ b) w5.heap u x ∧ Chg (fun q => vo.ownBlock = some q) w5 w1
def givT (b o nn q k N0 : Nat) (pv : Option Addr) (nu qv : Nat) (xn : ByteArray) (xd : Bool) (xz : Int) (xc : List ByteArray) (pc : Option Addr) (qc : Nat) : Nat → Value → World → Prop
  | 16, v, _ => ∃ g, v = .slice (some ⟨g, 0, none⟩) 0 0
  | 22, v, w => ∃ p3 q3, v = .slice p3 xc.length q3 ∧ xc.length ≤ q3 ∧ SeqIn (fun b => N0 ≤ b) 9 IsText w.heap (.slice p3 xc.length q3) xc
  | 23, v, w => ∃ p3 q3, v = .agg #[.string xn, .bool xd, .int .i64 xz, .slice p3 xc.length q3] ∧ xc.length ≤ q3 ∧ SeqIn (fun b => N0 ≤ b) 9 IsText w.heap (.slice p3 xc.length q3) xc
  | 24, v, w => ∃ g p3 q3, v = .slice (some ⟨g, 0, none⟩) 1 1 ∧ N0 ≤ g ∧ BlkAt w g 40 #[.string xn, .bool xd, .int .i64 xz, .slice p3 xc.length q3] ∧ xc.length ≤ q3 ∧ SeqIn (fun b => N0 ≤ b) 9 IsText w.heap (.slice p3 xc.length q3) xc
  | 25, _, _ => True
  | 26, _, _ => True
  | i, v, _ => v = ([.slice pv nu qv, .slice (some ⟨b, o, none⟩) nn q, .int .i64 (k : Int), .pointer (some ⟨b, o + k * 4, none⟩), .pointer (some ⟨b, o + k * 4, none⟩), .string xn, .slice (some ⟨b, o, none⟩) nn q, .int .i64 (k : Int), .pointer (some ⟨b, o + k * 4, none⟩), .pointer (some ⟨b, o + k * 4 + 1, none⟩), .bool xd, .slice (some ⟨b, o, none⟩) nn q, .int .i64 (k : Int), .pointer (some ⟨b, o + k * 4, none⟩), .pointer (some ⟨b, o + k * 4 + 2, none⟩), .int .i64 xz, undef, .slice (some ⟨b, o, none⟩) nn q, .int .i64 (k : Int), .pointer (some ⟨b, o + k * 4, none⟩), .pointer (some ⟨b, o + k * 4 + 3, none⟩), .slice pc xc.length qc, undef, undef, undef, undef, undef] : List Value).getD i undef
theorem givT_chg {b o nn q k N0 : Nat} {pv : Option Addr} {nu qv : Nat} {xn : ByteArray} {xd : Bool} {xz : Int} {xc : List ByteArray} {pc : Option Addr} {qc : Nat} (i : Nat) (v : Value) (w w' : World) (c : Chg (fun b => b < N0) w w') (h : givT b o nn q k N0 pv nu qv xn xd xz xc pc qc i v w) : givT b o nn q k N0 pv nu qv xn xd xz xc pc qc i v w' := by
  match i, h with
  | 0, h => exact h
  | 1, h => exact h
  | 2, h => exact h
  | 3, h => exact h
  | 4, h => exact h
  | 5, h => exact h
  | 6, h => exact h
  | 7, h => exact h
  | 8, h => exact h
  | 9, h => exact h
  | 10, h => exact h
  | 11, h => exact h
  | 12, h => exact h
  | 13, h => exact h
  | 14, h => exact h
  | 15, h => exact h
  | 16, h => exact h
  | 17, h => exact h
  | 18, h => exact h
  | 19, h => exact h
  | 20, h => exact h
  | 21, h => exact h
  | 22, h => exact (let ⟨p3, q3, r1, r2, r3⟩ := h; ⟨p3, q3, r1, r2, r3.chg c (fun b _ hb _ => Nat.not_lt.2 hb) fun _ _ _ x => x⟩)
  | 23, h => exact (let ⟨p3, q3, r1, r2, r3⟩ := h; ⟨p3, q3, r1, r2, r3.chg c (fun b _ hb _ => Nat.not_lt.2 hb) fun _ _ _ x => x⟩)
  | 24, h => exact (let ⟨g, p3, q3, r, hg, gb, r2, r3⟩ := h; ⟨g, p3, q3, r, hg, gb.chg c (Nat.not_lt.2 hg), r2, r3.chg c (fun b _ hb _ => Nat.not_lt.2 hb) fun _ _ _ x => x⟩)
  | 25, h => exact h
  | 26, h => exact h
  | _ + 27, h => exact h
theorem elEntT : ElemTyK Tryd.prog 22 40 (.agg #[.string ByteArray.empty, .bool false, .int .i64 0, .slice none 0 0]) 4 56 := ⟨Tryd.underlying22, by kernel_rfl, rfl, by decide, by decide⟩
set_option maxRecDepth 100000 in
set_option maxHeartbeats 8000000 in
theorem taken_any (v : Value) (l : List EntR) (w : World) (h : EntsAt w.heap v l) (hb : NumE l) : Calls Tryd.prog 17 #[v] w fun e w' => ∃ v', e = .returned v' ∧ EntsAt w'.heap v' l ∧ Keeps w w' := by
  obtain ⟨p, q, rfl⟩ := rec_shape h
  obtain ⟨hl6, hc6⟩ := hb
  have HC6 := Lib.hid hc6
  have H := Lib.hid h
  clear h hc6
  go_enter Tryd.func17, Tryd.ntmps17
  go_wp2_with fail
  go_loopw [3, 4] (fun vo i wr => ∃ k : Nat, k ≤ l.length ∧ i = .int .i64 k ∧ Hid (OwnRec w.heap.size 40 4 (IsEntT (fun _ => True) wr.heap) wr vo (l.take k)) ∧ Hid (Keeps w wr)) (fun _ i _ => l.length - (intOf i).toNat)
  case atStart => exact ⟨0, by omega, rfl, OwnRec.nil _ _ _ _ _, keeps_refl _⟩
  case round =>
    obtain ⟨k, hk, rfl, hO, hK⟩ := hrel
    by_cases hlt : k < l.length
    · have hlt64 : (k : Int) < (l.length : Int) := by omega
      have hk0 : (0 : Int) ≤ (k : Int) := by omega
      obtain ⟨us, hu1, hu2, hu3⟩ := hO.out
      obtain ⟨pv, qv, rfl, _⟩ := own_sliceC hu1
      have hul : us.length = k := by rw [hu2, List.length_take]; omega
      have HUO := Lib.hid hu1
      have HL2 := Lib.hid hu2
      have HL3 := Lib.hid hul
      have H3 := Lib.hid hu3
      have HSZ : Hid (w.heap.size ≤ wr.heap.size) := hK.out.size
      have HLT : Hid (∀ b, Value.ownBlock (.slice pv us.length qv) = some b → b < wr.heap.size) := fun b hb => (own_blockK HUO.out b hb).2.1
      clear hu1 hu2 hu3 hul hO
      obtain ⟨b, o, pc, qc, rfl, _, c0, c1, c2, c3, ht, hq⟩ := ent_cell (EntsAt.keeps H.out hK.out) hlt
      have HTK : Hid (l.take (k + 1) = l.take k ++ [eAt l k]) := take_eAt hlt
      have HBD : Hid ((eAt l k).c.length ≤ 1000000) := HC6.out _ (eAt_mem hlt)
      generalize eAt l k = X at *
      obtain ⟨xn, xd, xz, xc⟩ := X
      dsimp only at c0 c1 c2 c3 ht hq HBD
      have K0 := Lib.hid c0
      have K1 := Lib.hid c1
      have K2 := Lib.hid c2
      have K3 := Lib.hid c3
      have HTX := Lib.hid ht
      clear c0 c1 c2 c3 ht hq
      go_wp2_with fail
      refine wp_region_stage [11, 12, 13, 14, 15, 16, 17, 18, 19, 20, 21, 22, 23, 24, 25, 26, 27, 28, 29, 30, 31, 32, 33, 34, 35, 36, 3] [[], [], [], [1, 2], [3], [4], [], [], [6, 7], [8], [9], [], [], [11, 12], [13], [14], [], [], [], [17, 18], [19], [20], [16, 21], [5, 10, 15, 22], [23], [0, 24], [25]] [25, 26] [0, 0, 0, 0, 0, 0, 0, 0, 0, 0, 0, 0, 0, 0, 0, 0, 0, 0, 0, 0, 0, 0, 0, 0, 0, 0, 1] [] (givT b o l.length q k wr.heap.size pv us.length qv xn xd xz xc pc qc) (fun w w' => Chg (fun b => b < wr.heap.size) w w') (givT_I w wr ⟨xn, xd, xz, xc⟩ (.slice pv us.length qv) us.length us.flatten) (by kernel_rfl) (by kernel_rfl) (by kernel_rfl) (by kernel_rfl) (by kernel_rfl) (by kernel_rfl) (by kernel_rfl) ?_ ?_ ?_ ?_ ?_ ?_ ?_
      · exact fun i v w w' c h => givT_chg i v w w' c h
      · exact fun w => Chg.refl _ w
      · exact fun i s vs w h => by cases h
      · refine ⟨?_, ?_, ?_, ?_, ?_, ?_, ?_, ?_, ?_, ?_, ?_, ?_, ?_, ?_, ?_, ?_, ?_, ?_, ?_, ?_, ?_, ?_, ?_, ?_, ?_, ?_, ?_, trivial⟩
        · exact fun g b h => by (cases h)
        · exact fun g b h => by (cases h)
        · exact fun g b h => by (cases h)
        · exact fun g b h => by (cases h)
        · exact fun g b h => by (cases h)
        · exact fun g b h => by (cases h)
        · exact fun g b h => by (cases h)
        · exact fun g b h => by (cases h)
        · exact fun g b h => by (cases h)
        · exact fun g b h => by (cases h)
        · exact fun g b h => by (cases h)
        · exact fun g b h => by (cases h)
        · exact fun g b h => by (cases h)
        · exact fun g b h => by (cases h)
        · exact fun g b h => by (cases h)
        · exact fun g b h => by (cases h)
        · exact fun g b h => by (cases h)
        · exact fun g b h => by (cases h)
        · exact fun g b h => by (cases h)
        · exact fun g b h => by (cases h)
        · exact fun g b h => by (cases h)
        · exact fun g b h => by (cases h)
        · exact fun g b h => by (cases h)
        · exact fun g b h => by (cases h)
        · exact fun g b h => by (cases h)
        · exact fun g b h => by (cases h)
        · exact fun g b h => by (cases h)
      · exact fun _ _ => keeps_refl wr
      · refine ⟨?_, ?_, ?_, ?_, ?_, ?_, ?_, ?_, ?_, ?_, ?_, ?_, ?_, ?_, ?_, ?_, ?_, ?_, ?_, ?_, ?_, ?_, ?_, ?_, ?_, ?_, ?_, trivial⟩
        · intro _ a w1 vs hI ho hn hu K hK
          have e3 : a.tmps[3]? = some (.slice pv us.length qv) := hu 26 (by decide) (by decide)
          clear hn ho hu
          have hI : Keeps wr w1 := hI
          go_simp
          exact hK _ _ (Chg.refl _ _) hI rfl
        · intro _ a w1 vs hI ho hn hu K hK
          have e0 : a.tmps[0]? = some (.slice (some ⟨b, o, none⟩) l.length q) := ho 0 rfl
          clear hn ho hu
          have hI : Keeps wr w1 := hI
          go_simp
          exact hK _ _ (Chg.refl _ _) hI rfl
        · intro _ a w1 vs hI ho hn hu K hK
          have e4 : a.tmps[4]? = some (.int .i64 (k : Int)) := ho 4 rfl
          clear hn ho hu
          have hI : Keeps wr w1 := hI
          go_simp
          exact hK _ _ (Chg.refl _ _) hI rfl
        · intro _ a w1 vs hI ho hn hu K hK
          obtain ⟨e12, g12⟩ : a.tmps[12]? = some (vs 1) ∧ vs 1 = .slice (some ⟨b, o, none⟩) l.length q := hn 1 (by decide)
          rw [g12] at e12
          clear g12
          obtain ⟨e13, g13⟩ : a.tmps[13]? = some (vs 2) ∧ vs 2 = .int .i64 (k : Int) := hn 2 (by decide)
          rw [g13] at e13
          clear g13
          clear hn ho hu
          have hI : Keeps wr w1 := hI
          go_simp
          exact hK _ _ (Chg.refl _ _) hI rfl
        · intro _ a w1 vs hI ho hn hu K hK
          obtain ⟨e14, g14⟩ : a.tmps[14]? = some (vs 3) ∧ vs 3 = .pointer (some ⟨b, o + k * 4, none⟩) := hn 3 (by decide)
          rw [g14] at e14
          clear g14
          clear hn ho hu
          have hI : Keeps wr w1 := hI
          go_simp
          exact hK _ _ (Chg.refl _ _) hI rfl
        · intro _ a w1 vs hI ho hn hu K hK
          obtain ⟨e15, g15⟩ : a.tmps[15]? = some (vs 4) ∧ vs 4 = .pointer (some ⟨b, o + k * 4, none⟩) := hn 4 (by decide)
          rw [g15] at e15
          clear g15
          clear hn ho hu
          have hI : Keeps wr w1 := hI
          have c := keeps_cell hI K0.out
          go_simp
          exact hK _ _ (Chg.refl _ _) hI rfl
        · intro _ a w1 vs hI ho hn hu K hK
          have e0 : a.tmps[0]? = some (.slice (some ⟨b, o, none⟩) l.length q) := ho 0 rfl
          clear hn ho hu
          have hI : Keeps wr w1 := hI
          go_simp
          exact hK _ _ (Chg.refl _ _) hI rfl
        · intro _ a w1 vs hI ho hn hu K hK
          have e4 : a.tmps[4]? = some (.int .i64 (k : Int)) := ho 4 rfl
          clear hn ho hu
          have hI : Keeps wr w1 := hI
          go_simp
          exact hK _ _ (Chg.refl _ _) hI rfl
        · intro _ a w1 vs hI ho hn hu K hK
          obtain ⟨e17, g17⟩ : a.tmps[17]? = some (vs 6) ∧ vs 6 = .slice (some ⟨b, o, none⟩) l.length q := hn 6 (by decide)
          rw [g17] at e17
          clear g17
          obtain ⟨e18, g18⟩ : a.tmps[18]? = some (vs 7) ∧ vs 7 = .int .i64 (k : Int) := hn 7 (by decide)
          rw [g18] at e18
          clear g18
          clear hn ho hu
          have hI : Keeps wr w1 := hI
          go_simp
          exact hK _ _ (Chg.refl _ _) hI rfl
        · intro _ a w1 vs hI ho hn hu K hK
          obtain ⟨e19, g19⟩ : a.tmps[19]? = some (vs 8) ∧ vs 8 = .pointer (some ⟨b, o + k * 4, none⟩) := hn 8 (by decide)
          rw [g19] at e19
          clear g19
          clear hn ho hu
          have hI : Keeps wr w1 := hI
          go_simp
          exact hK _ _ (Chg.refl _ _) hI rfl
        · intro _ a w1 vs hI ho hn hu K hK
          obtain ⟨e20, g20⟩ : a.tmps[20]? = some (vs 9) ∧ vs 9 = .pointer (some ⟨b, o + k * 4 + 1, none⟩) := hn 9 (by decide)
          rw [g20] at e20
          clear g20
          clear hn ho hu
          have hI : Keeps wr w1 := hI
          have c := keeps_cell hI K1.out
          go_simp
          exact hK _ _ (Chg.refl _ _) hI rfl
        · intro _ a w1 vs hI ho hn hu K hK
          have e0 : a.tmps[0]? = some (.slice (some ⟨b, o, none⟩) l.length q) := ho 0 rfl
          clear hn ho hu
          have hI : Keeps wr w1 := hI
          go_simp
          exact hK _ _ (Chg.refl _ _) hI rfl
        · intro _ a w1 vs hI ho hn hu K hK
          have e4 : a.tmps[4]? = some (.int .i64 (k : Int)) := ho 4 rfl
          clear hn ho hu
          have hI : Keeps wr w1 := hI
          go_simp
          exact hK _ _ (Chg.refl _ _) hI rfl
        · intro _ a w1 vs hI ho hn hu K hK
          obtain ⟨e22, g22⟩ : a.tmps[22]? = some (vs 11) ∧ vs 11 = .slice (some ⟨b, o, none⟩) l.length q := hn 11 (by decide)
          rw [g22] at e22
          clear g22
          obtain ⟨e23, g23⟩ : a.tmps[23]? = some (vs 12) ∧ vs 12 = .int .i64 (k : Int) := hn 12 (by decide)
          rw [g23] at e23
          clear g23
          clear hn ho hu
          have hI : Keeps wr w1 := hI
          go_simp
          exact hK _ _ (Chg.refl _ _) hI rfl
        · intro _ a w1 vs hI ho hn hu K hK
          obtain ⟨e24, g24⟩ : a.tmps[24]? = some (vs 13) ∧ vs 13 = .pointer (some ⟨b, o + k * 4, none⟩) := hn 13 (by decide)
          rw [g24] at e24
          clear g24
          clear hn ho hu
          have hI : Keeps wr w1 := hI
          go_simp
          exact hK _ _ (Chg.refl _ _) hI rfl
        · intro _ a w1 vs hI ho hn hu K hK
          obtain ⟨e25, g25⟩ : a.tmps[25]? = some (vs 14) ∧ vs 14 = .pointer (some ⟨b, o + k * 4 + 2, none⟩) := hn 14 (by decide)
          rw [g25] at e25
          clear g25
          clear hn ho hu
          have hI : Keeps wr w1 := hI
          have c := keeps_cell hI K2.out
          go_simp
          exact hK _ _ (Chg.refl _ _) hI rfl
        · intro _ a w1 vs hI ho hn hu K hK
          clear hn ho hu
          have hI : Keeps wr w1 := hI
          go_simp
          exact hK _ _ (Kept.any (kal _ _)) (Keeps.trans hI (kal _ _)) ⟨_, rfl⟩
        · intro _ a w1 vs hI ho hn hu K hK
          have e0 : a.tmps[0]? = some (.slice (some ⟨b, o, none⟩) l.length q) := ho 0 rfl
          clear hn ho hu
          have hI : Keeps wr w1 := hI
          go_simp
          exact hK _ _ (Chg.refl _ _) hI rfl
        · intro _ a w1 vs hI ho hn hu K hK
          have e4 : a.tmps[4]? = some (.int .i64 (k : Int)) := ho 4 rfl
          clear hn ho hu
          have hI : Keeps wr w1 := hI
          go_simp
          exact hK _ _ (Chg.refl _ _) hI rfl
        · intro _ a w1 vs hI ho hn hu K hK
          obtain ⟨e28, g28⟩ : a.tmps[28]? = some (vs 17) ∧ vs 17 = .slice (some ⟨b, o, none⟩) l.length q := hn 17 (by decide)
          rw [g28] at e28
          clear g28
          obtain ⟨e29, g29⟩ : a.tmps[29]? = some (vs 18) ∧ vs 18 = .int .i64 (k : Int) := hn 18 (by decide)
          rw [g29] at e29
          clear g29
          clear hn ho hu
          have hI : Keeps wr w1 := hI
          go_simp
          exact hK _ _ (Chg.refl _ _) hI rfl
        · intro _ a w1 vs hI ho hn hu K hK
          obtain ⟨e30, g30⟩ : a.tmps[30]? = some (vs 19) ∧ vs 19 = .pointer (some ⟨b, o + k * 4, none⟩) := hn 19 (by decide)
          rw [g30] at e30
          clear g30
          clear hn ho hu
          have hI : Keeps wr w1 := hI
          go_simp
          exact hK _ _ (Chg.refl _ _) hI rfl
        · intro _ a w1 vs hI ho hn hu K hK
          obtain ⟨e31, g31⟩ : a.tmps[31]? = some (vs 20) ∧ vs 20 = .pointer (some ⟨b, o + k * 4 + 3, none⟩) := hn 20 (by decide)
          rw [g31] at e31
          clear g31
          clear hn ho hu
          have hI : Keeps wr w1 := hI
          have c := keeps_cell hI K3.out
          go_simp
          exact hK _ _ (Chg.refl _ _) hI rfl
        · intro _ a w1 vs hI ho hn hu K hK
          obtain ⟨e27, g27⟩ : a.tmps[27]? = some (vs 16) ∧ ∃ g, (vs 16) = .slice (some ⟨g, 0, none⟩) 0 0 := hn 16 (by decide)
          obtain ⟨e32, g32⟩ : a.tmps[32]? = some (vs 21) ∧ vs 21 = .slice pc xc.length qc := hn 21 (by decide)
          rw [g32] at e32
          clear g32
          clear hn ho hu
          have hI : Keeps wr w1 := hI
          obtain ⟨g, r⟩ := g27
          rw [r] at e27
          refine oper_freshT rfl (.tmp 27) (.tmp 32) rfl g (by simp [Act.eval, e27]) pc xc.length qc xc (by simp [Act.eval, e32]) rfl (SeqAt.keeps HTX.out hI) HBD.out ?_
          intro v' w' ho hk
          exact hK v' w' (Kept.any hk) (Keeps.trans hI hk) (let ⟨p3, q3, r1, r2, r3⟩ := ho; ⟨p3, q3, r1, r2, r3.mono (fun b hb => Nat.le_trans (Kept.size hI) hb) fun _ _ x => x⟩)
        · intro _ a w1 vs hI ho hn hu K hK
          obtain ⟨e16, g16⟩ : a.tmps[16]? = some (vs 5) ∧ vs 5 = .string xn := hn 5 (by decide)
          rw [g16] at e16
          clear g16
          obtain ⟨e21, g21⟩ : a.tmps[21]? = some (vs 10) ∧ vs 10 = .bool xd := hn 10 (by decide)
          rw [g21] at e21
          clear g21
          obtain ⟨e26, g26⟩ : a.tmps[26]? = some (vs 15) ∧ vs 15 = .int .i64 xz := hn 15 (by decide)
          rw [g26] at e26
          clear g26
          obtain ⟨e33, g33⟩ : a.tmps[33]? = some (vs 22) ∧ ∃ p3 q3, (vs 22) = .slice p3 xc.length q3 ∧ xc.length ≤ q3 ∧ SeqIn (fun b => wr.heap.size ≤ b) 9 IsText w1.heap (.slice p3 xc.length q3) xc := hn 22 (by decide)
          clear hn ho hu
          have hI : Keeps wr w1 := hI
          obtain ⟨p3, q3, r1, r2, r3⟩ := g33
          rw [r1] at e33
          go_simp
          exact hK _ _ (Chg.refl _ _) hI ⟨p3, q3, rfl, r2, r3⟩
        · intro _ a w1 vs hI ho hn hu K hK
          obtain ⟨e34, g34⟩ : a.tmps[34]? = some (vs 23) ∧ ∃ p3 q3, (vs 23) = .agg #[.string xn, .bool xd, .int .i64 xz, .slice p3 xc.length q3] ∧ xc.length ≤ q3 ∧ SeqIn (fun b => wr.heap.size ≤ b) 9 IsText w1.heap (.slice p3 xc.length q3) xc := hn 23 (by decide)
          clear hn ho hu
          have hI : Keeps wr w1 := hI
          obtain ⟨p3, q3, r1, r2, r3⟩ := g34
          rw [r1] at e34
          go_simp
          exact hK _ _ (Kept.any (kal _ _)) (Keeps.trans hI (kal _ _)) ⟨_, p3, q3, rfl, Kept.size hI, BlkAt.new _ _ _, r2, r3.chg (T := fun _ => False) (Kept.any (kal _ _)) (fun _ _ _ _ x => x) fun _ _ _ x => x⟩
        · intro _ a w1 vs hI ho hn hu K hK
          obtain ⟨e11, g11⟩ : a.tmps[11]? = some (vs 0) ∧ vs 0 = .slice pv us.length qv := hn 0 (by decide)
          rw [g11] at e11
          clear g11
          obtain ⟨e35, g35⟩ : a.tmps[35]? = some (vs 24) ∧ ∃ g p3 q3, (vs 24) = .slice (some ⟨g, 0, none⟩) 1 1 ∧ wr.heap.size ≤ g ∧ BlkAt w1 g 40 #[.string xn, .bool xd, .int .i64 xz, .slice p3 xc.length q3] ∧ xc.length ≤ q3 ∧ SeqIn (fun b => wr.heap.size ≤ b) 9 IsText w1.heap (.slice p3 xc.length q3) xc := hn 24 (by decide)
          clear hn ho hu
          have hI : Keeps wr w1 := hI
          obtain ⟨g, p3, q3, r, hg, gb, r2, r3⟩ := g35
          rw [r] at e35
          refine oper_appr1 elEntT rfl (.tmp 11) (.tmp 35) rfl w.heap.size (.slice pv us.length qv) us.length us.flatten (by simp [Act.eval, e11]) (owns_chgK (T := fun _ => False) HUO.out (Kept.any hI) fun _ _ x => x) g [.string xn, .bool xd, .int .i64 xz, .slice p3 xc.length q3] (by simp [Act.eval, e35]) rfl (blk_cells gb) (by intro y hy; simp at hy; rcases hy with rfl | rfl | rfl | rfl <;> rfl) (by have := HL3.out; omega) (Nat.le_trans HSZ.out (Kept.size hI)) ?_
          intro v' w' ho hc
          exact hK v' w' (hc.mono fun b _ hb => HLT.out b hb) ⟨w1, _, hI, by rw [upd_self]; exact ho, ⟨_, rfl, r3, fun _ _ _ e => by cases e; exact r2⟩, hc⟩ trivial
        · intro _ a w1 vs hI ho hn hu K hK
          obtain ⟨e36, g36⟩ : a.tmps[36]? = some (vs 25) ∧ True := hn 25 (by decide)
          clear hn ho hu
          have hI : ∃ (w5 : World) (u : List Value), Keeps wr w5 ∧ w1.ownsRow w.heap.size 40 4 (vs 25) (us.length + 1) (us.flatten ++ u) ∧ IsEntT (fun b => wr.heap.size ≤ b) w5.heap u ⟨xn, xd, xz, xc⟩ ∧ Chg (fun q => Value.ownBlock (.slice pv us.length qv) = some q) w5 w1 := hI
          obtain ⟨w5, u, h5, ho, hp, hc⟩ := hI
          go_simp
          exact hK _ _ (Chg.refl _ _) ⟨w5, u, h5, by rw [upd_self]; exact ho, hp, hc⟩ trivial
      · intro vs wE hI hG
        obtain ⟨w5, u5, h5, ho, hp, hc⟩ : ∃ (w5 : World) (u : List Value), Keeps wr w5 ∧ wE.ownsRow w.heap.size 40 4 (vs 26) (us.length + 1) (us.flatten ++ u) ∧ IsEntT (fun b => wr.heap.size ≤ b) w5.heap u ⟨xn, xd, xz, xc⟩ ∧ Chg (fun q => Value.ownBlock (.slice pv us.length qv) = some q) w5 wE := hI
        clear hG
        simp only [setAll, Nat.zero_add, Nat.reduceAdd, List.setIfInBounds_toArray, List.set_cons_zero, List.set_cons_succ]
        generalize vs 0 = y0 at *
        generalize vs 1 = y1 at *
        generalize vs 2 = y2 at *
        generalize vs 3 = y3 at *
        generalize vs 4 = y4 at *
        generalize vs 5 = y5 at *
        generalize vs 6 = y6 at *
        generalize vs 7 = y7 at *
        generalize vs 8 = y8 at *
        generalize vs 9 = y9 at *
        generalize vs 10 = y10 at *
        generalize vs 11 = y11 at *
        generalize vs 12 = y12 at *
        generalize vs 13 = y13 at *
        generalize vs 14 = y14 at *
        generalize vs 15 = y15 at *
        generalize vs 16 = y16 at *
        generalize vs 17 = y17 at *
        generalize vs 18 = y18 at *
        generalize vs 19 = y19 at *
        generalize vs 20 = y20 at *
        generalize vs 21 = y21 at *
        generalize vs 22 = y22 at *
        generalize vs 23 = y23 at *
        generalize vs 24 = y24 at *
        generalize vs 25 = y25 at *
        generalize vs 26 = y26 at *
        have hcc : Chg (fun q => Value.ownBlock (.slice pv us.length qv) = some q) wr wE := (Kept.any h5).trans hc
        have HO6 : Hid (OwnRec w.heap.size 40 4 (IsEntT (fun _ => True) wE.heap) wE y26 (l.take (k + 1))) := by
          show OwnRec _ _ _ _ _ _ _
          rw [HTK.out]
          refine OwnRec.push (R := IsEntT (fun _ => True) wr.heap) HL2.out H3.out ho (fun a b _ x => IsEntT.chg x hcc fun b _ _ ht => own_typeT HUO.out ht (by decide)) (IsEntT.len hp) ?_
          exact (IsEntT.chg hp hc fun q _ hq _ e => Nat.not_lt.2 hq (HLT.out q e)).mono fun _ _ => trivial
        have HK6 : Hid (Keeps w wE) := hK.out.then (chg_kept (B := w.heap.size) hcc (fun q _ e => (own_blockK HUO.out q e).1) HSZ.out) (Nat.le_refl _)
        clear h5 ho hp hc hcc HUO HL2 HL3 H3 HLT K0 K1 K2 K3 HTX
        go_wp2_with fail
        refine ⟨?_, by simp [intOf]; omega⟩
        first | exact ⟨k + 1, by omega, by go_num, HO6, HK6⟩ | ((repeat apply Exists.intro); exact ⟨⟨k + 1, by omega, by go_num, HO6, HK6⟩, rfl⟩)
    · obtain rfl : k = l.length := by omega
      have HE := Lib.hid hO.out
      have HK2 := Lib.hid hK.out
      clear hO hK
      go_wp2_with fail
      go_ret
      refine ⟨_, rfl, ?_, HK2.out⟩
      have h1 := HE.out
      rw [List.take_length] at h1
      exact (RecIn.at_ (h1.seq (by omega))).imp (fun _ _ _ e => e) fun _ _ _ x => x.at_

end Go.Proofs.YtdpfanifagfciaaDoor
